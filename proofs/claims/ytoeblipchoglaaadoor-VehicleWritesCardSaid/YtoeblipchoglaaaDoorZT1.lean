/- The chains of operations of some functions of the program. -/
import Derived.Test.YtoeblipchoglaaaDoorZBaseA
import Derived.Test.YtoeblipchoglaaaDoorProg
import Derived.KernelRfl
set_option linter.unusedVariables false
set_option linter.unusedSimpArgs false
namespace Go.Proofs.YtoeblipchoglaaaDoor
open Sh
variable {R : Ending → World → Prop} {w : World}
set_option maxRecDepth 100000
theorem follows_mixed : Tryd.prog.follows .mixedOrders = true := by kernel_rfl
def sh_journal_Put (v0 v1 : Value) (R : Ending → World → Prop) (w : World) : Prop := 
 letI X := Pan R
 letI D := DoV Tryd.prog
 letI Q := CallF Tryd.prog
 letI B := CallB Tryd.prog
 letI I := Value.int IntKind.i64
 letI T := Operand.tmp
(D (Instr.box 57 v1) w (fun t1 w1 =>
 D (Instr.loadAt 57 t1) w1 (fun t2 w2 =>
 Q 40 #[t2] w2 (fun t3 w3 =>
 D (Op.unary UnOp.not t3) w3 (fun t4 w4 =>
 Br t4
(R (.returned (Value.tuple #[(Value.slice none 0 0), (I 1)])) w4)
(D (Instr.loadAt 57 t1) w4 (fun t5 w5 =>
 Q 42 #[t5] w5 (fun t6 w6 =>
 Q 41 #[t6] w6 (fun t7 w7 =>
 D (Instr.extract t7 0) w7 (fun t8 w8 =>
 D (Instr.extract t7 1) w8 (fun t9 w9 =>
 JoinE [] (fun K10 =>
 JoinE [26] (fun K11 =>
 D (binS BinOp.neq 35 (T 17) (Operand.const (I 0)) t9 (I 0)) w9 (fun t12 w12 =>
 Gd t12 false (B Builtin.len #[26] 3 #[false] #[v0] w12 (fun t13 w13 =>
 B Builtin.len #[26] 3 #[false] #[t8] w13 (fun t14 w14 =>
 D (binS BinOp.add 3 (T 21) (T 23) t13 t14) w14 (fun t15 w15 =>
 D (binS BinOp.gtr 3 (T 24) (Operand.const (I 200000)) t15 (I 200000)) w15 (fun t16 w16 =>
 K11 [t16] w16) X) X) X) X)
(K11 [(Value.bool true)] w12)) X)
(fun h17 w17 =>
 Br (h17 26)
(R (.returned (Value.tuple #[(Value.slice none 0 0), (I 2)])) w17)
(K10 [] w17)))
(fun _ w18 =>
 D (Instr.buildSlice 26 0 #[]) w18 (fun t19 w19 =>
 B Builtin.append #[26, 26] 26 #[false, false] #[t19, v0] w19 (fun t20 w20 =>
 B Builtin.append #[26, 26] 26 #[false, false] #[t20, t8] w20 (fun t21 w21 =>
 R (.returned (Value.tuple #[t21, (I 0)])) w21) X) X) X)) X) X) X) X) X)) X) X) X) X)
theorem sh_journal_Put_ok (v0 v1 : Value) (h : sh_journal_Put v0 v1 R w) : Calls Tryd.prog 29 #[v0, v1] w R :=
  calls_of_vc (c := Tryd.f29.body.getD .skip) (args := [v0, v1]) [] [] follows_mixed Tryd.func29 rfl (of_decide_eq_true (by kernel_rfl)) (by kernel_rfl) (Eq.mp (by kernel_rfl) h)
def sh_journal_Load (v0 : Value) (R : Ending → World → Prop) (w : World) : Prop := 
 letI X := Pan R
 letI D := DoV Tryd.prog
 letI Q := CallF Tryd.prog
 letI B := CallB Tryd.prog
 letI I := Value.int IntKind.i64
 letI T := Operand.tmp
 letI E := Instr.extract
(Q 48 #[v0] w (fun t1 w1 =>
 D (E t1 0) w1 (fun t2 w2 =>
 D (E t1 1) w2 (fun _ w3 =>
 D (E t1 2) w3 (fun t4 w4 =>
 D (binS BinOp.neq 35 (T 22) (Operand.const (I 0)) t4 (I 0)) w4 (fun t5 w5 =>
 Br t5
(R (.returned (Value.tuple #[(Value.slice none 0 0), (I 0), t4])) w5)
(JoinE [8, 9, 27] (fun K6 =>
 B Builtin.len #[89] 3 #[false] #[t2] w5 (fun t7 w7 =>
 LoopE [8, 9, 27] [(Value.slice none 0 0), (I 0), (I 0)] w7 (fun h8 w8 K8 =>
 D (binS BinOp.lss 3 (T 27) (T 26) (h8 27) t7) w8 (fun t9 w9 =>
 Br t9
(D (Instr.indexAt 89 t2 (h8 27)) w9 (fun t10 w10 =>
 D (Instr.loadAt 81 t10) w10 (fun t11 w11 =>
 Q 49 #[t11] w11 (fun t12 w12 =>
 D (E t12 0) w12 (fun t13 w13 =>
 D (E t12 1) w13 (fun t14 w14 =>
 D (Instr.alloc 57 true (.tuple #[])) w14 (fun t15 w15 =>
 DoU Tryd.prog (Instr.storeAt 57 t15 t13) w15 (fun _ w16 =>
 D (Op.unary UnOp.not t14) w16 (fun t17 w17 =>
 Br t17
(K6 [(h8 8), (h8 9), (h8 27)] w17)
(Q 41 #[t11] w17 (fun t18 w18 =>
 D (E t18 0) w18 (fun t19 w19 =>
 D (E t18 1) w19 (fun _ w20 =>
 D (Instr.loadAt 57 t15) w20 (fun t21 w21 =>
 D (Instr.buildSlice 75 1 #[(0, t21)]) w21 (fun t22 w22 =>
 B Builtin.append #[75, 75] 75 #[false, false] #[(h8 8), t22] w22 (fun t23 w23 =>
 B Builtin.len #[26] 3 #[false] #[t19] w23 (fun t24 w24 =>
 D (binS BinOp.add 3 (T 47) (T 49) (h8 9) t24) w24 (fun t25 w25 =>
 D (binS BinOp.add 3 (T 27) (Operand.const (I 1)) (h8 27) (I 1)) w25 (fun t26 w26 =>
 K8 [t23, t25, t26] w26) X) X) X) X) X) X) X) X) X)) X) X) X) X) X) X) X) X)
(K6 [(h8 8), (h8 9), (h8 27)] w9)) X)) X)
(fun h27 w27 =>
 R (.returned (Value.tuple #[(h27 8), (h27 9), (I 0)])) w27))) X) X) X) X) X)
theorem sh_journal_Load_ok (v0 : Value) (h : sh_journal_Load v0 R w) : Calls Tryd.prog 34 #[v0] w R :=
  calls_of_vc (c := Tryd.f34.body.getD .skip) (args := [v0]) [] [8, 9, 27] follows_mixed Tryd.func34 rfl (of_decide_eq_true (by kernel_rfl)) (by kernel_rfl) (Eq.mp (by kernel_rfl) h)
def sh_sign_Verify (v0 v1 v2 : Value) (R : Ending → World → Prop) (w : World) : Prop := 
 letI X := Pan R
 letI D := DoV Tryd.prog
 letI Q := CallF Tryd.prog
 letI I := Value.int IntKind.i64
 letI T := Operand.tmp
 letI C := Operand.const
 letI L := Instr.loadAt
 letI F := Instr.fieldAt
 letI V := Value.bool
(D (Instr.box 64 v1) w (fun t1 w1 =>
 JoinE [] (fun K2 =>
 JoinE [23] (fun K3 =>
 Q 51 #[v0] w1 (fun t4 w4 =>
 D (Op.unary UnOp.not t4) w4 (fun t5 w5 =>
 Gd t5 false (D (F 64 t1 0) w5 (fun t6 w6 =>
 D (L 3 t6) w6 (fun t7 w7 =>
 Q 52 #[t7, (I 0)] w7 (fun t8 w8 =>
 D (Op.unary UnOp.not t8) w8 (fun t9 w9 =>
 Gd t9 false (D (F 64 t1 1) w9 (fun t10 w10 =>
 D (L 3 t10) w10 (fun t11 w11 =>
 Q 52 #[t11, (I 0)] w11 (fun t12 w12 =>
 D (Op.unary UnOp.not t12) w12 (fun t13 w13 =>
 K3 [t13] w13) X) X) X) X)
(K3 [(V true)] w9)) X) X) X) X)
(K3 [(V true)] w5)) X) X)
(fun h14 w14 =>
 Br (h14 23)
(R (.returned (Value.tuple #[(V false), (I 1)])) w14)
(K2 [] w14)))
(fun _ w15 =>
 DrawE w15 (fun Rs16 Rb16 w16 =>
 DetOp Rb16 Rs16 w16 (fun w17 K17 => D (F 64 t1 1) w17 K17 X) (fun c24_17 ψ17 =>
 DetOp Rb16 Rs16 w16 (fun w18 K18 => D (L 3 c24_17) w18 K18 X) (fun c25_18 ψ18 =>
 DetOp Rs16 Rb16 w16 (fun w19 K19 => Q 53 #[(I 4), c25_18] w19 K19 X) (fun c26_19 ψ19 =>
 DetOp Rb16 Rs16 w16 (fun w20 K20 => D (F 64 t1 0) w20 K20 X) (fun c28_20 ψ20 =>
 DetOp Rb16 Rs16 w16 (fun w21 K21 => D (L 3 c28_20) w21 K21 X) (fun c29_21 ψ21 =>
 DetOp Rb16 Rs16 w16 (fun w22 K22 => D (binS BinOp.sub 3 (C (I 1073741789)) (T 29) (I 1073741789) c29_21) w22 K22 X) (fun c30_22 ψ22 =>
 DetOp Rb16 Rs16 w16 (fun w23 K23 => D (binS BinOp.rem 3 (T 30) (C (I 1073741789)) c30_22 (I 1073741789)) w23 K23 X) (fun c31_23 ψ23 =>
 ∀ w24, Rb16 w16 w24 → (((((((True ∧ ψ17 w24) ∧ ψ18 w24) ∧ ψ19 w24) ∧ ψ20 w24) ∧ ψ21 w24) ∧ ψ22 w24) ∧ ψ23 w24) →
 Q 53 #[v0, c31_23] w24 (fun t25 w25 =>
 D (binS BinOp.mul 3 (T 26) (T 32) c26_19 t25) w25 (fun t26 w26 =>
 D (binS BinOp.rem 3 (T 33) (C (I 2147483579)) t26 (I 2147483579)) w26 (fun t27 w27 =>
 DrawE w27 (fun Rs28 Rb28 w28 =>
 DetOp Rb28 Rs28 w28 (fun w29 K29 => D (L 64 t1) w29 K29 X) (fun c35_29 ψ29 =>
 DetOp Rs28 Rb28 w28 (fun w30 K30 => Q 54 #[t27, v0, v2] w30 K30 X) (fun c39_30 ψ30 =>
 DetOp Rb28 Rs28 w28 (fun w31 K31 => D (F 64 t1 1) w31 K31 X) (fun c40_31 ψ31 =>
 DetOp Rb28 Rs28 w28 (fun w32 K32 => D (L 3 c40_31) w32 K32 X) (fun c41_32 ψ32 =>
 DetOp Rb28 Rs28 w28 (fun w33 K33 => D (Instr.build 64 #[(0, c39_30), (1, c41_32)]) w33 K33 X) (fun c42_33 ψ33 =>
 ∀ w34, Rb28 w28 w34 → (((((True ∧ ψ29 w34) ∧ ψ30 w34) ∧ ψ31 w34) ∧ ψ32 w34) ∧ ψ33 w34) →
 D (binS BinOp.eql 64 (T 35) (T 42) c35_29 c42_33) w34 (fun t35 w35 =>
 R (.returned (Value.tuple #[t35, (I 0)])) w35) X))))))) X) X) X)))))))))) X)
theorem sh_sign_Verify_ok (v0 v1 v2 : Value) (h : sh_sign_Verify v0 v1 v2 R w) : Calls Tryd.prog 37 #[v0, v1, v2] w R :=
  calls_of_vc (c := Tryd.f37.body.getD .skip) (args := [v0, v1, v2]) [(3, 8, false, 3), (4, 8, false, 5)] [] follows_mixed Tryd.func37 rfl (of_decide_eq_true (by kernel_rfl)) (by kernel_rfl) (Eq.mp (by kernel_rfl) h)
def sh_journal_isRecord (v0 : Value) (R : Ending → World → Prop) (w : World) : Prop := 
 letI X := Pan R
 letI D := DoV Tryd.prog
 letI I := Value.int IntKind.i64
 letI T := Operand.tmp
 letI C := Operand.const
 letI L := Instr.loadAt
 letI F := Instr.fieldAt
 letI V := Value.bool
 letI J := BinOp.eql
(D (Instr.box 57 v0) w (fun t1 w1 =>
 D (F 57 t1 0) w1 (fun t2 w2 =>
 D (L 3 t2) w2 (fun t3 w3 =>
 D (binS J 3 (T 4) (C (I 1)) t3 (I 1)) w3 (fun t4 w4 =>
 Br t4
(D (F 57 t1 1) w4 (fun t5 w5 =>
 D (F 32 t5 0) w5 (fun t6 w6 =>
 D (L 3 t6) w6 (fun t7 w7 =>
 D (binS BinOp.leq 3 (C (I 1)) (T 9) (I 1) t7) w7 (fun t8 w8 =>
 Gd t8 true (D (F 57 t1 1) w8 (fun t9 w9 =>
 D (F 32 t9 0) w9 (fun t10 w10 =>
 D (L 3 t10) w10 (fun t11 w11 =>
 D (binS BinOp.leq 3 (T 14) (C (I 2000)) t11 (I 2000)) w11 (fun t12 w12 =>
 Gd t12 true (D (F 57 t1 2) w12 (fun t13 w13 =>
 D (L 3 t13) w13 (fun t14 w14 =>
 D (binS J 3 (T 19) (C (I 0)) t14 (I 0)) w14 (fun t15 w15 =>
 Gd t15 true (D (F 57 t1 3) w15 (fun t16 w16 =>
 D (L 55 t16) w16 (fun t17 w17 =>
 D (binS J 55 (T 24) (C (Value.int IntKind.u64 0)) t17 (Value.int IntKind.u64 0)) w17 (fun t18 w18 =>
 R (.returned t18) w18) X) X) X)
(R (.returned (V false)) w15)) X) X) X)
(R (.returned (V false)) w12)) X) X) X) X)
(R (.returned (V false)) w8)) X) X) X) X)
(D (binS J 3 (T 4) (C (I 2)) t3 (I 2)) w4 (fun t19 w19 =>
 Br t19
(D (F 57 t1 2) w19 (fun t20 w20 =>
 D (L 3 t20) w20 (fun t21 w21 =>
 D (binS BinOp.leq 3 (C (I 0)) (T 30) (I 0) t21) w21 (fun t22 w22 =>
 Gd t22 true (D (F 57 t1 2) w22 (fun t23 w23 =>
 D (L 3 t23) w23 (fun t24 w24 =>
 D (binS BinOp.leq 3 (T 34) (C (I 2000)) t24 (I 2000)) w24 (fun t25 w25 =>
 Gd t25 true (D (F 57 t1 1) w25 (fun t26 w26 =>
 D (L 32 t26) w26 (fun t27 w27 =>
 D (Instr.build 32 #[]) w27 (fun t28 w28 =>
 D (binS J 32 (T 39) (T 40) t27 t28) w28 (fun t29 w29 =>
 R (.returned t29) w29) X) X) X) X)
(R (.returned (V false)) w25)) X) X) X)
(R (.returned (V false)) w22)) X) X) X)
(R (.returned (V false)) w19)) X)) X) X) X) X)
theorem sh_journal_isRecord_ok (v0 : Value) (h : sh_journal_isRecord v0 R w) : Calls Tryd.prog 40 #[v0] w R :=
  calls_of_vc (c := Tryd.f40.body.getD .skip) (args := [v0]) [] [] follows_mixed Tryd.func40 rfl (of_decide_eq_true (by kernel_rfl)) (by kernel_rfl) (Eq.mp (by kernel_rfl) h)
def sh_codec_Frame (v0 : Value) (R : Ending → World → Prop) (w : World) : Prop := 
 letI X := Pan R
 letI D := DoV Tryd.prog
 letI Q := CallF Tryd.prog
 letI B := CallB Tryd.prog
 letI I := Value.int IntKind.i64
 letI T := Operand.tmp
 letI C := Operand.const
(Q 57 #[v0] w (fun t1 w1 =>
 D (Instr.extract t1 0) w1 (fun t2 w2 =>
 D (Instr.extract t1 1) w2 (fun t3 w3 =>
 D (binS BinOp.neq 35 (T 13) (C (I 0)) t3 (I 0)) w3 (fun t4 w4 =>
 Br t4
(R (.returned (Value.tuple #[(Value.slice none 0 0), t3])) w4)
(B Builtin.len #[26] 3 #[false] #[t2] w4 (fun t5 w5 =>
 D (binS BinOp.shr 3 (T 18) (C (Value.int IntKind.u64 16)) t5 (Value.int IntKind.u64 16)) w5 (fun t6 w6 =>
 D (convert 3 5 t6) w6 (fun t7 w7 =>
 D (binS BinOp.shr 3 (T 21) (C (Value.int IntKind.u64 8)) t5 (Value.int IntKind.u64 8)) w7 (fun t8 w8 =>
 D (convert 3 5 t8) w8 (fun t9 w9 =>
 D (convert 3 5 t5) w9 (fun t10 w10 =>
 D (Instr.buildSlice 26 3 #[(0, t7), (1, t9), (2, t10)]) w10 (fun t11 w11 =>
 B Builtin.append #[26, 26] 26 #[false, false] #[t11, t2] w11 (fun t12 w12 =>
 Q 58 #[t12] w12 (fun t13 w13 =>
 D (Instr.alloc 102 true (.tuple #[])) w13 (fun t14 w14 =>
 DoU Tryd.prog (Instr.storeAt 102 t14 t13) w14 (fun _ w15 =>
 D (Instr.sliceAt 102 t14 none none none) w15 (fun t16 w16 =>
 B Builtin.append #[26, 26] 26 #[false, false] #[t12, t16] w16 (fun t17 w17 =>
 R (.returned (Value.tuple #[t17, (I 0)])) w17) X) X) X) X) X) X) X) X) X) X) X) X) X)) X) X) X) X)
theorem sh_codec_Frame_ok (v0 : Value) (h : sh_codec_Frame v0 R w) : Calls Tryd.prog 41 #[v0] w R :=
  calls_of_vc (c := Tryd.f41.body.getD .skip) (args := [v0]) [] [] follows_mixed Tryd.func41 rfl (of_decide_eq_true (by kernel_rfl)) (by kernel_rfl) (Eq.mp (by kernel_rfl) h)
def sh_journal_ints (v0 : Value) (R : Ending → World → Prop) (w : World) : Prop := 
 letI X := Pan R
 letI D := DoV Tryd.prog
 letI Q := CallF Tryd.prog
 letI I := Value.int IntKind.i64
 letI T := Operand.tmp
 letI C := Operand.const
 letI L := Instr.loadAt
 letI F := Instr.fieldAt
(D (Instr.box 57 v0) w (fun t1 w1 =>
 D (F 57 t1 0) w1 (fun t2 w2 =>
 D (L 3 t2) w2 (fun t3 w3 =>
 D (binS BinOp.eql 3 (T 5) (C (I 2)) t3 (I 2)) w3 (fun t4 w4 =>
 Br t4
(D (F 57 t1 0) w4 (fun t5 w5 =>
 D (L 3 t5) w5 (fun t6 w6 =>
 D (F 57 t1 2) w6 (fun t7 w7 =>
 D (L 3 t7) w7 (fun t8 w8 =>
 D (F 57 t1 3) w8 (fun t9 w9 =>
 D (L 55 t9) w9 (fun t10 w10 =>
 D (binS BinOp.quo 55 (T 12) (C (Value.int IntKind.u64 4294967296)) t10 (Value.int IntKind.u64 4294967296)) w10 (fun t11 w11 =>
 D (convert 55 3 t11) w11 (fun t12 w12 =>
 D (F 57 t1 3) w12 (fun t13 w13 =>
 D (L 55 t13) w13 (fun t14 w14 =>
 D (binS BinOp.rem 55 (T 16) (C (Value.int IntKind.u64 4294967296)) t14 (Value.int IntKind.u64 4294967296)) w14 (fun t15 w15 =>
 D (convert 55 3 t15) w15 (fun t16 w16 =>
 D (Instr.buildSlice 81 4 #[(0, t6), (1, t8), (2, t12), (3, t16)]) w16 (fun t17 w17 =>
 Q 59 #[t17] w17 (fun t18 w18 =>
 R (.returned t18) w18) X) X) X) X) X) X) X) X) X) X) X) X) X) X)
(D (F 57 t1 1) w4 (fun t19 w19 =>
 D (L 32 t19) w19 (fun t20 w20 =>
 D (Instr.alloc 32 true (.tuple #[])) w20 (fun t21 w21 =>
 DoU Tryd.prog (Instr.storeAt 32 t21 t20) w21 (fun _ w22 =>
 D (F 57 t1 0) w22 (fun t23 w23 =>
 D (L 3 t23) w23 (fun t24 w24 =>
 D (F 32 t21 0) w24 (fun t25 w25 =>
 D (L 3 t25) w25 (fun t26 w26 =>
 D (F 32 t21 1) w26 (fun t27 w27 =>
 D (L 3 t27) w27 (fun t28 w28 =>
 D (F 32 t21 2) w28 (fun t29 w29 =>
 D (L 3 t29) w29 (fun t30 w30 =>
 D (F 32 t21 3) w30 (fun t31 w31 =>
 D (L 3 t31) w31 (fun t32 w32 =>
 D (F 32 t21 4) w32 (fun t33 w33 =>
 D (L 3 t33) w33 (fun t34 w34 =>
 D (F 32 t21 5) w34 (fun t35 w35 =>
 D (L 3 t35) w35 (fun t36 w36 =>
 D (F 32 t21 6) w36 (fun t37 w37 =>
 D (L 3 t37) w37 (fun t38 w38 =>
 D (F 32 t21 7) w38 (fun t39 w39 =>
 D (F 30 t39 0) w39 (fun t40 w40 =>
 D (L 3 t40) w40 (fun t41 w41 =>
 D (F 32 t21 7) w41 (fun t42 w42 =>
 D (F 30 t42 1) w42 (fun t43 w43 =>
 D (L 3 t43) w43 (fun t44 w44 =>
 D (F 32 t21 8) w44 (fun t45 w45 =>
 D (L 3 t45) w45 (fun t46 w46 =>
 D (F 32 t21 9) w46 (fun t47 w47 =>
 D (L 3 t47) w47 (fun t48 w48 =>
 D (F 32 t21 10) w48 (fun t49 w49 =>
 D (L 3 t49) w49 (fun t50 w50 =>
 D (Instr.buildSlice 81 13 #[(0, t24), (1, t26), (2, t28), (3, t30), (4, t32), (5, t34), (6, t36), (7, t38), (8, t41), (9, t44), (10, t46), (11, t48), (12, t50)]) w50 (fun t51 w51 =>
 Q 59 #[t51] w51 (fun t52 w52 =>
 R (.returned t52) w52) X) X) X) X) X) X) X) X) X) X) X) X) X) X) X) X) X) X) X) X) X) X) X) X) X) X) X) X) X) X) X) X) X) X)) X) X) X) X)
theorem sh_journal_ints_ok (v0 : Value) (h : sh_journal_ints v0 R w) : Calls Tryd.prog 42 #[v0] w R :=
  calls_of_vc (c := Tryd.f42.body.getD .skip) (args := [v0]) [] [] follows_mixed Tryd.func42 rfl (of_decide_eq_true (by kernel_rfl)) (by kernel_rfl) (Eq.mp (by kernel_rfl) h)
def sh_digest_Sum (v0 : Value) (R : Ending → World → Prop) (w : World) : Prop := 
(CallF Tryd.prog 55 #[(Value.int IntKind.u64 14695981039346656037), v0] w (fun t1 w1 =>
 R (.returned t1) w1) (Pan R))
theorem sh_digest_Sum_ok (v0 : Value) (h : sh_digest_Sum v0 R w) : Calls Tryd.prog 46 #[v0] w R :=
  calls_of_vc (c := Tryd.f46.body.getD .skip) (args := [v0]) [] [] follows_mixed Tryd.func46 rfl (of_decide_eq_true (by kernel_rfl)) (by kernel_rfl) (Eq.mp (by kernel_rfl) h)
def sh_codec_Frames (v0 : Value) (R : Ending → World → Prop) (w : World) : Prop := 
 letI X := Pan R
 letI D := DoV Tryd.prog
 letI B := CallB Tryd.prog
 letI I := Value.int IntKind.i64
 letI T := Operand.tmp
(B Builtin.len #[26] 3 #[false] #[v0] w (fun t1 w1 =>
 D (binS BinOp.gtr 3 (T 10) (Operand.const (I 200000)) t1 (I 200000)) w1 (fun t2 w2 =>
 Br t2
(R (.returned (Value.tuple #[(Value.slice none 0 0), (I 0), (I 2)])) w2)
(LoopE [5, 6] [(Value.slice none 0 0), (I 0)] w2 (fun h3 w3 K3 =>
 D (Instr.sliceAt 26 v0 (some (h3 6)) none none) w3 (fun t4 w4 =>
 CallF Tryd.prog 66 #[t4] w4 (fun t5 w5 =>
 D (Instr.extract t5 0) w5 (fun t6 w6 =>
 D (Instr.extract t5 1) w6 (fun t7 w7 =>
 D (binS BinOp.eql 3 (T 19) (Operand.const (I 0)) t7 (I 0)) w7 (fun t8 w8 =>
 Br t8
(R (.returned (Value.tuple #[(h3 5), (h3 6), (I 0)])) w8)
(D (Instr.buildSlice 89 1 #[(0, t6)]) w8 (fun t9 w9 =>
 B Builtin.append #[89, 89] 89 #[false, false] #[(h3 5), t9] w9 (fun t10 w10 =>
 D (binS BinOp.add 3 (T 27) (T 28) (h3 6) t7) w10 (fun t11 w11 =>
 K3 [t10, t11] w11) X) X) X)) X) X) X) X) X))) X) X)
theorem sh_codec_Frames_ok (v0 : Value) (h : sh_codec_Frames v0 R w) : Calls Tryd.prog 48 #[v0] w R :=
  calls_of_vc (c := Tryd.f48.body.getD .skip) (args := [v0]) [] [5, 6] follows_mixed Tryd.func48 rfl (of_decide_eq_true (by kernel_rfl)) (by kernel_rfl) (Eq.mp (by kernel_rfl) h)
def sh_journal_record (v0 : Value) (R : Ending → World → Prop) (w : World) : Prop := 
 letI D := DoV Tryd.prog
 letI U := DoU Tryd.prog
 letI S := Instr.storeAt
 letI N := Instr.alloc
(D (N 57 true (.tuple #[])) w (fun t1 w1 =>
 D (N 4 true (.tuple #[])) w1 (fun t2 w2 =>
 D (Instr.makeFunc (Fn.func 67) #[] #[t1, t2]) w2 (fun t3 w3 =>
(match t3 with | .func fn4 fi4 ca4 => D (Instr.build 123 #[(0, v0)]) w3 (fun t5 w5 =>
 D (Instr.build 125 #[(1, t5)]) w5 (fun t6 w6 =>
 D (N 125 true (.tuple #[])) w6 (fun t7 w7 =>
 U (S 125 t7 t6) w7 (fun _ w8 =>
 CallF Tryd.prog 68 #[t7] w8 (fun _ w9 =>
 D (Instr.fieldAt 125 t7 0) w9 (fun t10 w10 =>
 D (Instr.loadAt 57 t10) w10 (fun t11 w11 =>
 U (S 57 t1 t11) w11 (fun _ w12 =>
 U (S 4 t2 (Value.bool true)) w12 (fun _ w13 =>
 LeavesE Tryd.prog Tryd.f49 [(2, t1), (3, t2)] R [{ target := .fn fn4 ca4, args := fi4 ++ #[] }] .returning w13) (PanD Tryd.prog Tryd.f49 [(2, t1), (3, t2)] R [{ target := .fn fn4 ca4, args := fi4 ++ #[] }])) (PanD Tryd.prog Tryd.f49 [(2, t1), (3, t2)] R [{ target := .fn fn4 ca4, args := fi4 ++ #[] }])) (PanD Tryd.prog Tryd.f49 [(2, t1), (3, t2)] R [{ target := .fn fn4 ca4, args := fi4 ++ #[] }])) (PanD Tryd.prog Tryd.f49 [(2, t1), (3, t2)] R [{ target := .fn fn4 ca4, args := fi4 ++ #[] }])) (PanD Tryd.prog Tryd.f49 [(2, t1), (3, t2)] R [{ target := .fn fn4 ca4, args := fi4 ++ #[] }])) (PanD Tryd.prog Tryd.f49 [(2, t1), (3, t2)] R [{ target := .fn fn4 ca4, args := fi4 ++ #[] }])) (PanD Tryd.prog Tryd.f49 [(2, t1), (3, t2)] R [{ target := .fn fn4 ca4, args := fi4 ++ #[] }])) (PanD Tryd.prog Tryd.f49 [(2, t1), (3, t2)] R [{ target := .fn fn4 ca4, args := fi4 ++ #[] }])) (PanD Tryd.prog Tryd.f49 [(2, t1), (3, t2)] R [{ target := .fn fn4 ca4, args := fi4 ++ #[] }]) | _ => False)) (PanD Tryd.prog Tryd.f49 [(2, t1), (3, t2)] R [])) (PanD Tryd.prog Tryd.f49 [(2, t1), (3, undef)] R [])) (PanD Tryd.prog Tryd.f49 [(2, undef), (3, undef)] R []))
theorem sh_journal_record_ok (v0 : Value) (h : sh_journal_record v0 R w) : Calls Tryd.prog 49 #[v0] w R :=
  calls_of_vcD (c := Tryd.f49.body.getD .skip) (args := [v0]) [] [] follows_mixed Tryd.func49 rfl (of_decide_eq_true (by kernel_rfl)) (by kernel_rfl) (Eq.mp (by kernel_rfl) h)
def sh_slices_IndexFunc___api_Record_api_Record_ (v0 v1 : Value) (R : Ending → World → Prop) (w : World) : Prop := 
 letI X := Pan R
 letI D := DoV Tryd.prog
 letI I := Value.int IntKind.i64
 letI T := Operand.tmp
(CallB Tryd.prog Builtin.len #[75] 3 #[false] #[v0] w (fun t1 w1 =>
 LoopE [8] [(I 0)] w1 (fun h2 w2 K2 =>
 D (binS BinOp.lss 3 (T 8) (T 7) (h2 8) t1) w2 (fun t3 w3 =>
 Br t3
(D (Instr.indexAt 75 v0 (h2 8)) w3 (fun t4 w4 =>
 D (Instr.loadAt 57 t4) w4 (fun t5 w5 =>
 CallV Tryd.prog v1 #[t5] w5 (fun t6 w6 =>
 Br t6
(R (.returned (h2 8)) w6)
(D (binS BinOp.add 3 (T 8) (Operand.const (I 1)) (h2 8) (I 1)) w6 (fun t7 w7 =>
 K2 [t7] w7) X)) X) X) X)
(R (.returned (I (-1))) w3)) X)) X)
theorem sh_slices_IndexFunc___api_Record_api_Record__ok (v0 v1 : Value) (h : sh_slices_IndexFunc___api_Record_api_Record_ v0 v1 R w) : Calls Tryd.prog 50 #[v0, v1] w R :=
  calls_of_vc (c := Tryd.f50.body.getD .skip) (args := [v0, v1]) [] [8] follows_mixed Tryd.func50 rfl (of_decide_eq_true (by kernel_rfl)) (by kernel_rfl) (Eq.mp (by kernel_rfl) h)
def sh_sign_Member (v0 : Value) (R : Ending → World → Prop) (w : World) : Prop := 
 letI X := Pan R
 letI D := DoV Tryd.prog
 letI I := Value.int IntKind.i64
 letI T := Operand.tmp
 letI C := Operand.const
(D (binS BinOp.geq 3 (T 3) (C (I 1)) v0 (I 1)) w (fun t1 w1 =>
 Gd t1 true (D (binS BinOp.lss 3 (T 6) (C (I 2147483579)) v0 (I 2147483579)) w1 (fun t2 w2 =>
 Gd t2 true (CallF Tryd.prog 53 #[v0, (I 1073741789)] w2 (fun t3 w3 =>
 D (binS BinOp.eql 3 (T 11) (C (I 1)) t3 (I 1)) w3 (fun t4 w4 =>
 R (.returned t4) w4) X) X)
(R (.returned (Value.bool false)) w2)) X)
(R (.returned (Value.bool false)) w1)) X)
theorem sh_sign_Member_ok (v0 : Value) (h : sh_sign_Member v0 R w) : Calls Tryd.prog 51 #[v0] w R :=
  calls_of_vc (c := Tryd.f51.body.getD .skip) (args := [v0]) [] [] follows_mixed Tryd.func51 rfl (of_decide_eq_true (by kernel_rfl)) (by kernel_rfl) (Eq.mp (by kernel_rfl) h)
def sh_sign_within (v0 v1 : Value) (R : Ending → World → Prop) (w : World) : Prop := 
 letI I := Value.int IntKind.i64
 letI T := Operand.tmp
(DoV Tryd.prog (binS BinOp.leq 3 (T 5) (T 6) v1 v0) w (fun t1 w1 =>
 Gd t1 true (DoV Tryd.prog (binS BinOp.lss 3 (T 9) (Operand.const (I 1073741789)) v0 (I 1073741789)) w1 (fun t2 w2 =>
 R (.returned t2) w2) (Pan R))
(R (.returned (Value.bool false)) w1)) (Pan R))
theorem sh_sign_within_ok (v0 v1 : Value) (h : sh_sign_within v0 v1 R w) : Calls Tryd.prog 52 #[v0, v1] w R :=
  calls_of_vc (c := Tryd.f52.body.getD .skip) (args := [v0, v1]) [] [] follows_mixed Tryd.func52 rfl (of_decide_eq_true (by kernel_rfl)) (by kernel_rfl) (Eq.mp (by kernel_rfl) h)
def sh_sign_power (v0 v1 : Value) (R : Ending → World → Prop) (w : World) : Prop := 
 letI X := Pan R
 letI D := DoV Tryd.prog
 letI I := Value.int IntKind.i64
 letI T := Operand.tmp
 letI C := Operand.const
 letI L := Instr.loadAt
(D (Instr.box 3 v0) w (fun t1 w1 =>
 D (Instr.alloc 3 true (.tuple #[])) w1 (fun t2 w2 =>
 DoU Tryd.prog (Instr.storeAt 3 t2 (I 1)) w2 (fun _ w3 =>
 LoopE [1] [v1] w3 (fun h4 w4 K4 =>
 D (binS BinOp.gtr 3 (T 7) (C (I 0)) (h4 1) (I 0)) w4 (fun t5 w5 =>
 Br t5
(JoinE [] (fun K6 =>
 JoinE [] (fun K7 =>
 D (binS BinOp.rem 3 (T 11) (C (I 2)) (h4 1) (I 2)) w5 (fun t8 w8 =>
 D (binS BinOp.eql 3 (T 12) (C (I 1)) t8 (I 1)) w8 (fun t9 w9 =>
 Br t9
(D (L 3 t1) w9 (fun t10 w10 =>
 CallV Tryd.prog (Value.func (Fn.func 69) #[] #[]) #[t2, t10] w10 (fun _ w11 =>
 K7 [] w11) X) X)
(K7 [] w9)) X) X)
(fun _ w12 =>
 D (L 3 t1) w12 (fun t13 w13 =>
 CallV Tryd.prog (Value.func (Fn.func 69) #[] #[]) #[t1, t13] w13 (fun _ w14 =>
 K6 [] w14) X) X))
(fun _ w15 =>
 D (binS BinOp.quo 3 (T 9) (C (I 2)) (h4 1) (I 2)) w15 (fun t16 w16 =>
 K4 [t16] w16) X))
(D (L 3 t2) w5 (fun t17 w17 =>
 R (.returned t17) w17) X)) X)) X) X) X)
theorem sh_sign_power_ok (v0 v1 : Value) (h : sh_sign_power v0 v1 R w) : Calls Tryd.prog 53 #[v0, v1] w R :=
  calls_of_vc (c := Tryd.f53.body.getD .skip) (args := [v0, v1]) [] [1] follows_mixed Tryd.func53 rfl (of_decide_eq_true (by kernel_rfl)) (by kernel_rfl) (Eq.mp (by kernel_rfl) h)
def sh_sign_challenge (v0 v1 v2 : Value) (R : Ending → World → Prop) (w : World) : Prop := 
 letI X := Pan R
 letI D := DoV Tryd.prog
(D (Instr.buildSlice 81 2 #[(0, v0), (1, v1)]) w (fun t1 w1 =>
 CallB Tryd.prog Builtin.append #[81, 81] 81 #[false, false] #[t1, v2] w1 (fun t2 w2 =>
 CallF Tryd.prog 46 #[t2] w2 (fun t3 w3 =>
 D (binS BinOp.rem 55 (Operand.tmp 12) (Operand.const (Value.int IntKind.u64 1073741789)) t3 (Value.int IntKind.u64 1073741789)) w3 (fun t4 w4 =>
 D (convert 55 3 t4) w4 (fun t5 w5 =>
 R (.returned t5) w5) X) X) X) X) X)
theorem sh_sign_challenge_ok (v0 v1 v2 : Value) (h : sh_sign_challenge v0 v1 v2 R w) : Calls Tryd.prog 54 #[v0, v1, v2] w R :=
  calls_of_vc (c := Tryd.f54.body.getD .skip) (args := [v0, v1, v2]) [] [] follows_mixed Tryd.func54 rfl (of_decide_eq_true (by kernel_rfl)) (by kernel_rfl) (Eq.mp (by kernel_rfl) h)
def sh_digest_Next (v0 v1 : Value) (R : Ending → World → Prop) (w : World) : Prop := 
 letI X := Pan R
 letI D := DoV Tryd.prog
 letI Q := CallF Tryd.prog
 letI I := Value.int IntKind.i64
 letI T := Operand.tmp
 letI C := Operand.const
 letI E := Instr.extract
(Q 70 #[] w (fun t1 w1 =>
 D (E t1 0) w1 (fun t2 w2 =>
 D (E t1 1) w2 (fun t3 w3 =>
 LoopE [7] [(I 56)] w3 (fun h4 w4 K4 =>
 D (binS BinOp.geq 3 (T 16) (C (I 0)) (h4 7) (I 0)) w4 (fun t5 w5 =>
 Br t5
(D (binS BinOp.shr 55 (T 21) (T 22) v0 (h4 7)) w5 (fun t6 w6 =>
 D (convert 55 5 t6) w6 (fun t7 w7 =>
 D (Instr.buildSlice 26 1 #[(0, t7)]) w7 (fun t8 w8 =>
 CallV Tryd.prog t2 #[t8] w8 (fun _ w9 =>
 D (binS BinOp.sub 3 (T 18) (C (I 8)) (h4 7) (I 8)) w9 (fun t10 w10 =>
 K4 [t10] w10) X) X) X) X) X)
(CallB Tryd.prog Builtin.len #[81] 3 #[false] #[v1] w5 (fun t11 w11 =>
 LoopE [29] [(I 0)] w11 (fun h12 w12 K12 =>
 D (binS BinOp.lss 3 (T 29) (T 28) (h12 29) t11) w12 (fun t13 w13 =>
 Br t13
(D (Instr.indexAt 81 v1 (h12 29)) w13 (fun t14 w14 =>
 D (Instr.loadAt 3 t14) w14 (fun t15 w15 =>
 Q 71 #[t15] w15 (fun t16 w16 =>
 D (Instr.range 9 t16) w16 (fun t17 w17 =>
 LoopE [] [] w17 (fun h18 w18 K18 =>
 D (Instr.next t17 true 0) w18 (fun t19 w19 =>
 D (E t19 0) w19 (fun t20 w20 =>
 Br t20
(D (E t19 2) w20 (fun t21 w21 =>
 D (convert 21 5 t21) w21 (fun t22 w22 =>
 D (Instr.buildSlice 26 1 #[(0, t22)]) w22 (fun t23 w23 =>
 CallV Tryd.prog t2 #[t23] w23 (fun _ w24 =>
 K18 [] w24) X) X) X) X)
(D (Instr.buildSlice 26 1 #[(0, (Value.int IntKind.u8 32))]) w20 (fun t25 w25 =>
 CallV Tryd.prog t2 #[t25] w25 (fun _ w26 =>
 D (binS BinOp.add 3 (T 29) (C (I 1)) (h12 29) (I 1)) w26 (fun t27 w27 =>
 K12 [t27] w27) X) X) X)) X) X)) X) X) X) X)
(CallV Tryd.prog t3 #[] w13 (fun t28 w28 =>
 R (.returned t28) w28) X)) X)) X)) X)) X) X) X)
theorem sh_digest_Next_ok (v0 v1 : Value) (h : sh_digest_Next v0 v1 R w) : Calls Tryd.prog 55 #[v0, v1] w R :=
  calls_of_vc (c := Tryd.f55.body.getD .skip) (args := [v0, v1]) [] [7, 29] follows_mixed Tryd.func55 rfl (of_decide_eq_true (by kernel_rfl)) (by kernel_rfl) (Eq.mp (by kernel_rfl) h)
def sh_codec_Put (v0 : Value) (R : Ending → World → Prop) (w : World) : Prop := 
 letI X := Pan R
 letI D := DoV Tryd.prog
 letI Q := CallF Tryd.prog
 letI B := CallB Tryd.prog
 letI I := Value.int IntKind.i64
 letI T := Operand.tmp
(B Builtin.len #[81] 3 #[false] #[v0] w (fun t1 w1 =>
 D (binS BinOp.gtr 3 (T 8) (Operand.const (I 4000)) t1 (I 4000)) w1 (fun t2 w2 =>
 Br t2
(R (.returned (Value.tuple #[(Value.slice none 0 0), (I 2)])) w2)
(B Builtin.len #[81] 3 #[false] #[v0] w2 (fun t3 w3 =>
 Q 72 #[(Value.slice none 0 0), t3] w3 (fun t4 w4 =>
 B Builtin.len #[81] 3 #[false] #[v0] w4 (fun t5 w5 =>
 LoopE [4, 15] [t4, (I 0)] w5 (fun h6 w6 K6 =>
 D (binS BinOp.lss 3 (T 15) (T 14) (h6 15) t5) w6 (fun t7 w7 =>
 Br t7
(D (Instr.indexAt 81 v0 (h6 15)) w7 (fun t8 w8 =>
 D (Instr.loadAt 3 t8) w8 (fun t9 w9 =>
 Q 72 #[(h6 4), t9] w9 (fun t10 w10 =>
 D (binS BinOp.add 3 (T 15) (Operand.const (I 1)) (h6 15) (I 1)) w10 (fun t11 w11 =>
 K6 [t10, t11] w11) X) X) X) X)
(R (.returned (Value.tuple #[(h6 4), (I 0)])) w7)) X)) X) X) X)) X) X)
theorem sh_codec_Put_ok (v0 : Value) (h : sh_codec_Put v0 R w) : Calls Tryd.prog 57 #[v0] w R :=
  calls_of_vc (c := Tryd.f57.body.getD .skip) (args := [v0]) [] [4, 15] follows_mixed Tryd.func57 rfl (of_decide_eq_true (by kernel_rfl)) (by kernel_rfl) (Eq.mp (by kernel_rfl) h)
def sh_codec_sum (v0 : Value) (R : Ending → World → Prop) (w : World) : Prop := 
 letI X := Pan R
 letI D := DoV Tryd.prog
 letI I := Value.int IntKind.i64
 letI T := Operand.tmp
 letI C := Operand.const
(D (Instr.alloc 102 true (.tuple #[])) w (fun t1 w1 =>
 D (convert 26 9 v0) w1 (fun t2 w2 =>
 CallF Tryd.prog 73 #[t2] w2 (fun t3 w3 =>
 D (Instr.alloc 102 true (.tuple #[])) w3 (fun t4 w4 =>
 LoopE [9] [(I 0)] w4 (fun h5 w5 K5 =>
 D (binS BinOp.lss 3 (T 9) (C (I 8)) (h5 9) (I 8)) w5 (fun t6 w6 =>
 Br t6
(D (binS BinOp.sub 3 (C (I 7)) (T 14) (I 7) (h5 9)) w6 (fun t7 w7 =>
 D (binS BinOp.mul 3 (C (I 8)) (T 15) (I 8) t7) w7 (fun t8 w8 =>
 D (binS BinOp.shr 55 (T 13) (T 16) t3 t8) w8 (fun t9 w9 =>
 D (convert 55 5 t9) w9 (fun t10 w10 =>
 D (Instr.indexAt 102 t4 (h5 9)) w10 (fun t11 w11 =>
 DoU Tryd.prog (Instr.storeAt 5 t11 t10) w11 (fun _ w12 =>
 D (binS BinOp.add 3 (T 9) (C (I 1)) (h5 9) (I 1)) w12 (fun t13 w13 =>
 K5 [t13] w13) X) X) X) X) X) X) X)
(D (Instr.loadAt 102 t4) w6 (fun t14 w14 =>
 DoU Tryd.prog (Instr.storeAt 102 t1 t14) w14 (fun _ w15 =>
 Res Tryd.prog [.cell t1 102] w15 R) X) X)) X)) X) X) X) X)
theorem sh_codec_sum_ok (v0 : Value) (h : sh_codec_sum v0 R w) : Calls Tryd.prog 58 #[v0] w R :=
  calls_of_vc (c := Tryd.f58.body.getD .skip) (args := [v0]) [] [9] follows_mixed Tryd.func58 rfl (of_decide_eq_true (by kernel_rfl)) (by kernel_rfl) (Eq.mp (by kernel_rfl) h)
def sh_journal_list (v0 : Value) (R : Ending → World → Prop) (w : World) : Prop := 
(R (.returned v0) w)
theorem sh_journal_list_ok (v0 : Value) (h : sh_journal_list v0 R w) : Calls Tryd.prog 59 #[v0] w R :=
  calls_of_vc (c := Tryd.f59.body.getD .skip) (args := [v0]) [] [] follows_mixed Tryd.func59 rfl (of_decide_eq_true (by kernel_rfl)) (by kernel_rfl) (Eq.mp (by kernel_rfl) h)
def sh_codec_whole (v0 : Value) (R : Ending → World → Prop) (w : World) : Prop := 
 letI X := Pan R
 letI D := DoV Tryd.prog
 letI Q := CallF Tryd.prog
 letI B := CallB Tryd.prog
 letI I := Value.int IntKind.i64
 letI T := Operand.tmp
 letI C := Operand.const
 letI L := Instr.loadAt
 letI A := Instr.indexAt
 letI O := BinOp.add
(B Builtin.len #[26] 3 #[false] #[v0] w (fun t1 w1 =>
 D (binS BinOp.lss 3 (T 10) (C (I 11)) t1 (I 11)) w1 (fun t2 w2 =>
 Br t2
(R (.returned (Value.tuple #[(Value.slice none 0 0), (I 0)])) w2)
(DrawE w2 (fun Rs3 Rb3 w3 =>
 DetOp Rb3 Rs3 w3 (fun w4 K4 => D (A 26 v0 (I 0)) w4 K4 X) (fun c13_4 ψ4 =>
 DetOp Rb3 Rs3 w3 (fun w5 K5 => D (L 5 c13_4) w5 K5 X) (fun c14_5 ψ5 =>
 DetOp Rb3 Rs3 w3 (fun w6 K6 => D (convert 5 3 c14_5) w6 K6 X) (fun c15_6 ψ6 =>
 DetOp Rb3 Rs3 w3 (fun w7 K7 => D (binS BinOp.shl 3 (T 15) (C (Value.int IntKind.u64 16)) c15_6 (Value.int IntKind.u64 16)) w7 K7 X) (fun c16_7 ψ7 =>
 DetOp Rb3 Rs3 w3 (fun w8 K8 => D (A 26 v0 (I 1)) w8 K8 X) (fun c18_8 ψ8 =>
 DetOp Rb3 Rs3 w3 (fun w9 K9 => D (L 5 c18_8) w9 K9 X) (fun c19_9 ψ9 =>
 DetOp Rb3 Rs3 w3 (fun w10 K10 => D (convert 5 3 c19_9) w10 K10 X) (fun c20_10 ψ10 =>
 DetOp Rb3 Rs3 w3 (fun w11 K11 => D (binS BinOp.shl 3 (T 20) (C (Value.int IntKind.u64 8)) c20_10 (Value.int IntKind.u64 8)) w11 K11 X) (fun c21_11 ψ11 =>
 DetOp Rb3 Rs3 w3 (fun w12 K12 => D (binS O 3 (T 16) (T 21) c16_7 c21_11) w12 K12 X) (fun c22_12 ψ12 =>
 DetOp Rb3 Rs3 w3 (fun w13 K13 => D (A 26 v0 (I 2)) w13 K13 X) (fun c24_13 ψ13 =>
 DetOp Rb3 Rs3 w3 (fun w14 K14 => D (L 5 c24_13) w14 K14 X) (fun c25_14 ψ14 =>
 DetOp Rb3 Rs3 w3 (fun w15 K15 => D (convert 5 3 c25_14) w15 K15 X) (fun c26_15 ψ15 =>
 ∀ w16, Rb3 w3 w16 → ((((((((((((True ∧ ψ4 w16) ∧ ψ5 w16) ∧ ψ6 w16) ∧ ψ7 w16) ∧ ψ8 w16) ∧ ψ9 w16) ∧ ψ10 w16) ∧ ψ11 w16) ∧ ψ12 w16) ∧ ψ13 w16) ∧ ψ14 w16) ∧ ψ15 w16) →
 D (binS O 3 (T 22) (T 26) c22_12 c26_15) w16 (fun t17 w17 =>
 D (binS O 3 (C (I 3)) (T 28) (I 3) t17) w17 (fun t18 w18 =>
 B Builtin.len #[26] 3 #[false] #[v0] w18 (fun t19 w19 =>
 D (binS O 3 (T 32) (C (I 8)) t18 (I 8)) w19 (fun t20 w20 =>
 D (binS BinOp.lss 3 (T 31) (T 33) t19 t20) w20 (fun t21 w21 =>
 Br t21
(R (.returned (Value.tuple #[(Value.slice none 0 0), (I 0)])) w21)
(D (Instr.sliceAt 26 v0 none (some t18) (some t18)) w21 (fun t22 w22 =>
 DrawE w22 (fun Rs23 Rb23 w23 =>
 DetOp Rs23 Rb23 w23 (fun w24 K24 => Q 58 #[t22] w24 K24 X) (fun c40_24 ψ24 =>
 DetOp Rb23 Rs23 w23 (fun w25 K25 => D (binS O 3 (T 43) (C (I 8)) t18 (I 8)) w25 K25 X) (fun c44_25 ψ25 =>
 DetOp Rb23 Rs23 w23 (fun w26 K26 => D (Instr.sliceAt 26 v0 (some t18) (some c44_25) none) w26 K26 X) (fun c45_26 ψ26 =>
 DetOp Rb23 Rs23 w23 (fun w27 K27 => D (Instr.arrayAt 102 c45_26) w27 K27 X) (fun c46_27 ψ27 =>
 DetOp Rb23 Rs23 w23 (fun w28 K28 => D (L 102 c46_27) w28 K28 X) (fun c47_28 ψ28 =>
 ∀ w29, Rb23 w23 w29 → (((((True ∧ ψ24 w29) ∧ ψ25 w29) ∧ ψ26 w29) ∧ ψ27 w29) ∧ ψ28 w29) →
 D (binS BinOp.neq 102 (T 40) (T 47) c40_24 c47_28) w29 (fun t30 w30 =>
 Br t30
(R (.returned (Value.tuple #[(Value.slice none 0 0), (I 0)])) w30)
(D (Instr.sliceAt 26 t22 (some (I 3)) none none) w30 (fun t31 w31 =>
 Q 78 #[t31] w31 (fun t32 w32 =>
 D (Instr.extract t32 0) w32 (fun t33 w33 =>
 D (Instr.extract t32 1) w33 (fun t34 w34 =>
 D (binS BinOp.neq 35 (T 55) (C (I 0)) t34 (I 0)) w34 (fun t35 w35 =>
 Br t35
(R (.returned (Value.tuple #[(Value.slice none 0 0), (I 0)])) w35)
(D (binS O 3 (T 58) (C (I 8)) t18 (I 8)) w35 (fun t36 w36 =>
 R (.returned (Value.tuple #[t33, t36])) w36) X)) X) X) X) X) X)) X))))))) X)) X) X) X) X) X))))))))))))))) X) X)
theorem sh_codec_whole_ok (v0 : Value) (h : sh_codec_whole v0 R w) : Calls Tryd.prog 66 #[v0] w R :=
  calls_of_vc (c := Tryd.f66.body.getD .skip) (args := [v0]) [(3, 15, false, 0), (8, 9, false, 2)] [] follows_mixed Tryd.func66 rfl (of_decide_eq_true (by kernel_rfl)) (by kernel_rfl) (Eq.mp (by kernel_rfl) h)
def sh_journal_record_1 (v0 v1 : Value) (rv : Value) (R : Ending → World → Prop) (w : World) : Prop := 
 letI X := Pan R
 letI D := DoV Tryd.prog
 letI U := DoU Tryd.prog
 letI S := Instr.storeAt
(D (Instr.typeAssert rv 20 120 true) w (fun t1 w1 =>
 D (Instr.extract t1 0) w1 (fun t2 w2 =>
 D (Instr.extract t1 1) w2 (fun t3 w3 =>
 D (Instr.alloc 120 true (.tuple #[])) w3 (fun t4 w4 =>
 U (S 120 t4 t2) w4 (fun _ w5 =>
 Br t3
(D (Instr.build 57 #[]) w5 (fun t6 w6 =>
 U (S 57 v0 t6) w6 (fun _ w7 =>
 U (S 4 v1 (Value.bool false)) w7 (fun _ w8 =>
 R (.returned (Value.tuple #[])) w8) X) X) X)
(D (binS BinOp.neq 20 (Operand.tmp 13) (Operand.const Value.nilIface) rv Value.nilIface) w5 (fun t9 w9 =>
 Br t9
(D (Instr.panic rv) w9 (fun _ w10 =>
 R (.returned (Value.tuple #[])) w10) X)
(R (.returned (Value.tuple #[])) w9)) X)) X) X) X) X) X)
theorem sh_journal_record_1_eq (v0 v1 : Value) (rv : Value) (R : Ending → World → Prop) (w : World) : vc Tryd.prog [] [] (match Tryd.f67.body with | some (.seq _ c) => c | _ => .skip) (endR R) ((2, some rv) :: (5, some rv) :: argsE [v0, v1]) [] w = sh_journal_record_1 v0 v1 rv R w := by kernel_rfl
theorem sh_journal_record_1_ok (v0 v1 : Value) {R : Ending → World → Prop} {u : FrameMode} {w : World} (h : sh_journal_record_1 v0 v1 (recV u) R w) : CallsD Tryd.prog 67 #[v0, v1] u w fun e u' w' => u' = recM u ∧ R e w' :=
  callsD_of_rec2 (args := [v0, v1]) [] [] follows_mixed Tryd.func67 rfl rfl (fun _ _ => rfl) (fun _ _ => rfl) rfl rfl rfl rfl (of_decide_eq_true (by kernel_rfl)) (of_decide_eq_true (by kernel_rfl)) (of_decide_eq_true (by kernel_rfl)) (by kernel_rfl) ((sh_journal_record_1_eq v0 v1 (recV u) R w).symm ▸ h)
def sh_journal_reader_read (v0 : Value) (R : Ending → World → Prop) (w : World) : Prop := 
 letI X := Pan R
 letI D := DoV Tryd.prog
 letI U := DoU Tryd.prog
 letI Q := CallF Tryd.prog
 letI B := CallB Tryd.prog
 letI I := Value.int IntKind.i64
 letI T := Operand.tmp
 letI C := Operand.const
 letI L := Instr.loadAt
 letI F := Instr.fieldAt
 letI S := Instr.storeAt
(NilC Tryd.prog v0 w (fun t1 w1 =>
 D (F 125 t1 1) w1 (fun t2 w2 =>
 Q 79 #[t2] w2 (fun t3 w3 =>
 NilC Tryd.prog v0 w3 (fun t4 w4 =>
 D (F 125 t4 0) w4 (fun t5 w5 =>
 D (F 57 t5 0) w5 (fun t6 w6 =>
 U (S 3 t6 t3) w6 (fun _ w7 =>
 JoinE [87] (fun K8 =>
 NilC Tryd.prog v0 w7 (fun t9 w9 =>
 D (F 125 t9 0) w9 (fun t10 w10 =>
 D (F 57 t10 0) w10 (fun t11 w11 =>
 D (L 3 t11) w11 (fun t12 w12 =>
 D (binS BinOp.eql 3 (T 18) (C (I 2)) t12 (I 2)) w12 (fun t13 w13 =>
 Br t13
(NilC Tryd.prog v0 w13 (fun t14 w14 =>
 D (F 125 t14 1) w14 (fun t15 w15 =>
 Q 79 #[t15] w15 (fun t16 w16 =>
 NilC Tryd.prog v0 w16 (fun t17 w17 =>
 D (F 125 t17 0) w17 (fun t18 w18 =>
 D (F 57 t18 2) w18 (fun t19 w19 =>
 U (S 3 t19 t16) w19 (fun _ w20 =>
 NilC Tryd.prog v0 w20 (fun t21 w21 =>
 D (F 125 t21 1) w21 (fun t22 w22 =>
 Q 80 #[t22] w22 (fun t23 w23 =>
 D (binS BinOp.mul 55 (T 33) (C (Value.int IntKind.u64 4294967296)) t23 (Value.int IntKind.u64 4294967296)) w23 (fun t24 w24 =>
 NilC Tryd.prog v0 w24 (fun t25 w25 =>
 D (F 125 t25 1) w25 (fun t26 w26 =>
 Q 80 #[t26] w26 (fun t27 w27 =>
 D (binS BinOp.add 55 (T 34) (T 38) t24 t27) w27 (fun t28 w28 =>
 NilC Tryd.prog v0 w28 (fun t29 w29 =>
 D (F 125 t29 0) w29 (fun t30 w30 =>
 D (F 57 t30 3) w30 (fun t31 w31 =>
 U (S 55 t31 t28) w31 (fun _ w32 =>
 K8 [undef] w32) X) X) X) X) X) X) X) X) X) X) X) X) X) X) X) X) X) X) X)
(NilC Tryd.prog v0 w13 (fun t33 w33 =>
 D (F 125 t33 0) w33 (fun t34 w34 =>
 D (F 57 t34 1) w34 (fun t35 w35 =>
 DrawE w35 (fun Rs36 Rb36 w36 =>
 DetOp Rb36 Rs36 w36 (fun w37 K37 => NilC Tryd.prog t35 w37 K37 X) (fun c48_37 ψ37 =>
 DetOp Rb36 Rs36 w36 (fun w38 K38 => D (F 32 c48_37 0) w38 K38 X) (fun c49_38 ψ38 =>
 DetOp Rb36 Rs36 w36 (fun w39 K39 => NilC Tryd.prog t35 w39 K39 X) (fun c51_39 ψ39 =>
 DetOp Rb36 Rs36 w36 (fun w40 K40 => D (F 32 c51_39 1) w40 K40 X) (fun c52_40 ψ40 =>
 DetOp Rb36 Rs36 w36 (fun w41 K41 => NilC Tryd.prog t35 w41 K41 X) (fun c54_41 ψ41 =>
 DetOp Rb36 Rs36 w36 (fun w42 K42 => D (F 32 c54_41 2) w42 K42 X) (fun c55_42 ψ42 =>
 DetOp Rb36 Rs36 w36 (fun w43 K43 => NilC Tryd.prog t35 w43 K43 X) (fun c57_43 ψ43 =>
 DetOp Rb36 Rs36 w36 (fun w44 K44 => D (F 32 c57_43 3) w44 K44 X) (fun c58_44 ψ44 =>
 DetOp Rb36 Rs36 w36 (fun w45 K45 => NilC Tryd.prog t35 w45 K45 X) (fun c60_45 ψ45 =>
 DetOp Rb36 Rs36 w36 (fun w46 K46 => D (F 32 c60_45 4) w46 K46 X) (fun c61_46 ψ46 =>
 DetOp Rb36 Rs36 w36 (fun w47 K47 => NilC Tryd.prog t35 w47 K47 X) (fun c63_47 ψ47 =>
 DetOp Rb36 Rs36 w36 (fun w48 K48 => D (F 32 c63_47 5) w48 K48 X) (fun c64_48 ψ48 =>
 DetOp Rb36 Rs36 w36 (fun w49 K49 => NilC Tryd.prog t35 w49 K49 X) (fun c66_49 ψ49 =>
 DetOp Rb36 Rs36 w36 (fun w50 K50 => D (F 32 c66_49 6) w50 K50 X) (fun c67_50 ψ50 =>
 DetOp Rb36 Rs36 w36 (fun w51 K51 => NilC Tryd.prog t35 w51 K51 X) (fun c69_51 ψ51 =>
 DetOp Rb36 Rs36 w36 (fun w52 K52 => D (F 32 c69_51 7) w52 K52 X) (fun c70_52 ψ52 =>
 DetOp Rb36 Rs36 w36 (fun w53 K53 => D (F 30 c70_52 0) w53 K53 X) (fun c71_53 ψ53 =>
 DetOp Rb36 Rs36 w36 (fun w54 K54 => NilC Tryd.prog t35 w54 K54 X) (fun c73_54 ψ54 =>
 DetOp Rb36 Rs36 w36 (fun w55 K55 => D (F 32 c73_54 7) w55 K55 X) (fun c74_55 ψ55 =>
 DetOp Rb36 Rs36 w36 (fun w56 K56 => D (F 30 c74_55 1) w56 K56 X) (fun c75_56 ψ56 =>
 DetOp Rb36 Rs36 w36 (fun w57 K57 => NilC Tryd.prog t35 w57 K57 X) (fun c77_57 ψ57 =>
 DetOp Rb36 Rs36 w36 (fun w58 K58 => D (F 32 c77_57 8) w58 K58 X) (fun c78_58 ψ58 =>
 DetOp Rb36 Rs36 w36 (fun w59 K59 => NilC Tryd.prog t35 w59 K59 X) (fun c80_59 ψ59 =>
 DetOp Rb36 Rs36 w36 (fun w60 K60 => D (F 32 c80_59 9) w60 K60 X) (fun c81_60 ψ60 =>
 DetOp Rb36 Rs36 w36 (fun w61 K61 => NilC Tryd.prog t35 w61 K61 X) (fun c83_61 ψ61 =>
 DetOp Rb36 Rs36 w36 (fun w62 K62 => D (F 32 c83_61 10) w62 K62 X) (fun c84_62 ψ62 =>
 DetOp Rs36 Rb36 w36 (fun w63 K63 => D (Instr.buildSlice 143 12 #[(0, c49_38), (1, c52_40), (2, c55_42), (3, c58_44), (4, c61_46), (5, c64_48), (6, c67_50), (7, c71_53), (8, c75_56), (9, c78_58), (10, c81_60), (11, c84_62)]) w63 K63 X) (fun c85_63 ψ63 =>
 DetOp Rb36 Rs36 w36 (fun w64 K64 => B Builtin.len #[143] 3 #[false] #[c85_63] w64 K64 X) (fun c86_64 ψ64 =>
 ∀ w65, Rb36 w36 w65 → ((((((((((((((((((((((((((((True ∧ ψ37 w65) ∧ ψ38 w65) ∧ ψ39 w65) ∧ ψ40 w65) ∧ ψ41 w65) ∧ ψ42 w65) ∧ ψ43 w65) ∧ ψ44 w65) ∧ ψ45 w65) ∧ ψ46 w65) ∧ ψ47 w65) ∧ ψ48 w65) ∧ ψ49 w65) ∧ ψ50 w65) ∧ ψ51 w65) ∧ ψ52 w65) ∧ ψ53 w65) ∧ ψ54 w65) ∧ ψ55 w65) ∧ ψ56 w65) ∧ ψ57 w65) ∧ ψ58 w65) ∧ ψ59 w65) ∧ ψ60 w65) ∧ ψ61 w65) ∧ ψ62 w65) ∧ ψ63 w65) ∧ ψ64 w65) →
 LoopE [87] [(I 0)] w65 (fun h66 w66 K66 =>
 D (binS BinOp.lss 3 (T 87) (T 86) (h66 87) c86_64) w66 (fun t67 w67 =>
 Br t67
(D (Instr.indexAt 143 c85_63 (h66 87)) w67 (fun t68 w68 =>
 D (L 126 t68) w68 (fun t69 w69 =>
 NilC Tryd.prog v0 w69 (fun t70 w70 =>
 D (F 125 t70 1) w70 (fun t71 w71 =>
 Q 79 #[t71] w71 (fun t72 w72 =>
 NilC Tryd.prog t69 w72 (fun t73 w73 =>
 U (S 3 t73 t72) w73 (fun _ w74 =>
 D (binS BinOp.add 3 (T 87) (C (I 1)) (h66 87) (I 1)) w74 (fun t75 w75 =>
 K66 [t75] w75) X) X) X) X) X) X) X) X)
(K8 [(h66 87)] w67)) X))))))))))))))))))))))))))))))) X) X) X)) X) X) X) X) X)
(fun _ w76 =>
 JoinE [112] (fun K77 =>
 NilC Tryd.prog v0 w76 (fun t78 w78 =>
 D (F 125 t78 1) w78 (fun t79 w79 =>
 D (F 123 t79 0) w79 (fun t80 w80 =>
 D (L 81 t80) w80 (fun t81 w81 =>
 B Builtin.len #[81] 3 #[false] #[t81] w81 (fun t82 w82 =>
 D (binS BinOp.gtr 3 (T 103) (C (I 0)) t82 (I 0)) w82 (fun t83 w83 =>
 Gd t83 false (NilC Tryd.prog v0 w83 (fun t84 w84 =>
 D (F 125 t84 0) w84 (fun t85 w85 =>
 D (L 57 t85) w85 (fun t86 w86 =>
 Q 40 #[t86] w86 (fun t87 w87 =>
 D (Op.unary UnOp.not t87) w87 (fun t88 w88 =>
 K77 [t88] w88) X) X) X) X) X)
(K77 [(Value.bool true)] w83)) X) X) X) X) X) X)
(fun h89 w89 =>
 Br (h89 112)
(D (Instr.build 120 #[]) w89 (fun t90 w90 =>
 D (Instr.makeInterface 120 t90) w90 (fun t91 w91 =>
 D (Instr.panic t91) w91 (fun _ w92 =>
 R (.returned (Value.tuple #[])) w92) X) X) X)
(R (.returned (Value.tuple #[])) w89)))) X) X) X) X) X) X) X)
theorem sh_journal_reader_read_ok (v0 : Value) (h : sh_journal_reader_read v0 R w) : Calls Tryd.prog 68 #[v0] w R :=
  calls_of_vc (c := Tryd.f68.body.getD .skip) (args := [v0]) [(6, 41, false, 39)] [87] follows_mixed Tryd.func68 rfl (of_decide_eq_true (by kernel_rfl)) (by kernel_rfl) (Eq.mp (by kernel_rfl) h)
def sh_sign_power_1 (v0 v1 : Value) (R : Ending → World → Prop) (w : World) : Prop := 
 letI X := Pan R
 letI D := DoV Tryd.prog
 letI I := Value.int IntKind.i64
 letI T := Operand.tmp
(NilC Tryd.prog v0 w (fun t1 w1 =>
 D (Instr.loadAt 3 t1) w1 (fun t2 w2 =>
 D (binS BinOp.mul 3 (T 7) (T 8) t2 v1) w2 (fun t3 w3 =>
 D (binS BinOp.rem 3 (T 9) (Operand.const (I 2147483579)) t3 (I 2147483579)) w3 (fun t4 w4 =>
 NilC Tryd.prog v0 w4 (fun t5 w5 =>
 DoU Tryd.prog (Instr.storeAt 3 t5 t4) w5 (fun _ w6 =>
 R (.returned (Value.tuple #[])) w6) X) X) X) X) X) X)
theorem sh_sign_power_1_ok (v0 v1 : Value) (h : sh_sign_power_1 v0 v1 R w) : Calls Tryd.prog 69 #[v0, v1] w R :=
  calls_of_vc (c := Tryd.f69.body.getD .skip) (args := [v0, v1]) [] [] follows_mixed Tryd.func69 rfl (of_decide_eq_true (by kernel_rfl)) (by kernel_rfl) (Eq.mp (by kernel_rfl) h)
def sh_digest_run (R : Ending → World → Prop) (w : World) : Prop := 
 letI X := Pan R
 letI D := DoV Tryd.prog
(D (Instr.alloc 55 true (.tuple #[])) w (fun t1 w1 =>
 DoU Tryd.prog (Instr.storeAt 55 t1 (Value.int IntKind.u64 14695981039346656037)) w1 (fun _ w2 =>
 D (Instr.makeFunc (Fn.func 81) #[] #[t1]) w2 (fun t3 w3 =>
 D (Instr.makeFunc (Fn.func 82) #[] #[t1]) w3 (fun t4 w4 =>
 R (.returned (Value.tuple #[t3, t4])) w4) X) X) X) X)
theorem sh_digest_run_ok (h : sh_digest_run  R w) : Calls Tryd.prog 70 #[] w R :=
  calls_of_vc (c := Tryd.f70.body.getD .skip) (args := []) [] [] follows_mixed Tryd.func70 rfl (of_decide_eq_true (by kernel_rfl)) (by kernel_rfl) (Eq.mp (by kernel_rfl) h)
def sh_codec_put (v0 v1 : Value) (R : Ending → World → Prop) (w : World) : Prop := 
 letI X := Pan R
 letI D := DoV Tryd.prog
 letI B := CallB Tryd.prog
 letI T := Operand.tmp
 letI C := Operand.const
(CallF Tryd.prog 84 #[v1] w (fun t1 w1 =>
 LoopE [0, 5] [v0, t1] w1 (fun h2 w2 K2 =>
 D (binS BinOp.gtr 55 (T 8) (C (Value.int IntKind.u64 127)) (h2 5) (Value.int IntKind.u64 127)) w2 (fun t3 w3 =>
 Br t3
(D (convert 55 5 (h2 5)) w3 (fun t4 w4 =>
 D (binS BinOp.or 5 (T 14) (C (Value.int IntKind.u8 128)) t4 (Value.int IntKind.u8 128)) w4 (fun t5 w5 =>
 D (Instr.buildSlice 26 1 #[(0, t5)]) w5 (fun t6 w6 =>
 B Builtin.append #[26, 26] 26 #[false, false] #[(h2 0), t6] w6 (fun t7 w7 =>
 D (binS BinOp.shr 55 (T 10) (C (Value.int IntKind.u64 7)) (h2 5) (Value.int IntKind.u64 7)) w7 (fun t8 w8 =>
 K2 [t7, t8] w8) X) X) X) X) X)
(D (convert 55 5 (h2 5)) w3 (fun t9 w9 =>
 D (Instr.buildSlice 26 1 #[(0, t9)]) w9 (fun t10 w10 =>
 B Builtin.append #[26, 26] 26 #[false, false] #[(h2 0), t10] w10 (fun t11 w11 =>
 R (.returned t11) w11) X) X) X)) X)) X)
theorem sh_codec_put_ok (v0 v1 : Value) (h : sh_codec_put v0 v1 R w) : Calls Tryd.prog 72 #[v0, v1] w R :=
  calls_of_vc (c := Tryd.f72.body.getD .skip) (args := [v0, v1]) [] [0, 5] follows_mixed Tryd.func72 rfl (of_decide_eq_true (by kernel_rfl)) (by kernel_rfl) (Eq.mp (by kernel_rfl) h)
def sh_digest_Text (v0 : Value) (R : Ending → World → Prop) (w : World) : Prop := 
 letI X := Pan R
 letI D := DoV Tryd.prog
(CallF Tryd.prog 70 #[] w (fun t1 w1 =>
 D (Instr.extract t1 0) w1 (fun t2 w2 =>
 D (Instr.extract t1 1) w2 (fun t3 w3 =>
 D (convert 9 26 v0) w3 (fun t4 w4 =>
 CallV Tryd.prog t2 #[t4] w4 (fun _ w5 =>
 CallV Tryd.prog t3 #[] w5 (fun t6 w6 =>
 R (.returned t6) w6) X) X) X) X) X) X)
theorem sh_digest_Text_ok (v0 : Value) (h : sh_digest_Text v0 R w) : Calls Tryd.prog 73 #[v0] w R :=
  calls_of_vc (c := Tryd.f73.body.getD .skip) (args := [v0]) [] [] follows_mixed Tryd.func73 rfl (of_decide_eq_true (by kernel_rfl)) (by kernel_rfl) (Eq.mp (by kernel_rfl) h)
def sh_codec_Get (v0 : Value) (R : Ending → World → Prop) (w : World) : Prop := 
 letI D := DoV Tryd.prog
 letI U := DoU Tryd.prog
 letI Q := CallF Tryd.prog
 letI B := CallB Tryd.prog
 letI I := Value.int IntKind.i64
 letI T := Operand.tmp
 letI C := Operand.const
 letI L := Instr.loadAt
 letI S := Instr.storeAt
 letI N := Instr.alloc
(D (N 81 true (.tuple #[])) w (fun t1 w1 =>
 D (N 35 true (.tuple #[])) w1 (fun t2 w2 =>
 D (Instr.build 148 #[(0, v0)]) w2 (fun t3 w3 =>
 D (N 148 true (.tuple #[])) w3 (fun t4 w4 =>
 U (S 148 t4 t3) w4 (fun _ w5 =>
 Q 87 #[t4] w5 (fun t6 w6 =>
 JoinE [] (fun K7 =>
 JoinE [14] (fun K8 =>
 D (binS BinOp.lss 3 (T 9) (C (I 0)) t6 (I 0)) w6 (fun t9 w9 =>
 Gd t9 false (D (binS BinOp.gtr 3 (T 12) (C (I 4000)) t6 (I 4000)) w9 (fun t10 w10 =>
 K8 [t10] w10) (PanD Tryd.prog Tryd.f78 [(2, t1), (3, t2)] R [{ target := .fn (.func 86) #[], args := #[t1, t2] }]))
(K8 [(Value.bool true)] w9)) (PanD Tryd.prog Tryd.f78 [(2, t1), (3, t2)] R [{ target := .fn (.func 86) #[], args := #[t1, t2] }]))
(fun h11 w11 =>
 Br (h11 14)
(U (S 81 t1 (Value.slice none 0 0)) w11 (fun _ w12 =>
 U (S 35 t2 (I 7)) w12 (fun _ w13 =>
 LeavesE Tryd.prog Tryd.f78 [(2, t1), (3, t2)] R [{ target := .fn (.func 86) #[], args := #[t1, t2] }] .returning w13) (PanD Tryd.prog Tryd.f78 [(2, t1), (3, t2)] R [{ target := .fn (.func 86) #[], args := #[t1, t2] }])) (PanD Tryd.prog Tryd.f78 [(2, t1), (3, t2)] R [{ target := .fn (.func 86) #[], args := #[t1, t2] }]))
(K7 [] w11)))
(fun _ w14 =>
 LoopE [16] [(I 0)] w14 (fun h15 w15 K15 =>
 D (binS BinOp.lss 3 (T 16) (T 15) (h15 16) t6) w15 (fun t16 w16 =>
 Br t16
(DrawE w16 (fun Rs17 Rb17 w17 =>
 DetOp Rb17 Rs17 w17 (fun w18 K18 => D (L 81 t1) w18 K18 (PanD Tryd.prog Tryd.f78 [(2, t1), (3, t2)] R [{ target := .fn (.func 86) #[], args := #[t1, t2] }])) (fun c18_18 ψ18 =>
 DetOp Rs17 Rb17 w17 (fun w19 K19 => Q 87 #[t4] w19 K19 (PanD Tryd.prog Tryd.f78 [(2, t1), (3, t2)] R [{ target := .fn (.func 86) #[], args := #[t1, t2] }])) (fun c19_19 ψ19 =>
 NdOp Rb17 Rs17 w17 (fun w20 K20 => D (Instr.buildSlice 81 1 #[(0, c19_19)]) w20 K20 (PanD Tryd.prog Tryd.f78 [(2, t1), (3, t2)] R [{ target := .fn (.func 86) #[], args := #[t1, t2] }])) (fun v20_20 φ20 =>
 ∀ w21, Rb17 w17 w21 → ((True ∧ ψ18 w21) ∧ ψ19 w21) ∧ φ20 w21 →
 B Builtin.append #[81, 81] 81 #[false, false] #[c18_18, v20_20] w21 (fun t22 w22 =>
 U (S 81 t1 t22) w22 (fun _ w23 =>
 D (binS BinOp.add 3 (T 16) (C (I 1)) (h15 16) (I 1)) w23 (fun t24 w24 =>
 K15 [t24] w24) (PanD Tryd.prog Tryd.f78 [(2, t1), (3, t2)] R [{ target := .fn (.func 86) #[], args := #[t1, t2] }])) (PanD Tryd.prog Tryd.f78 [(2, t1), (3, t2)] R [{ target := .fn (.func 86) #[], args := #[t1, t2] }])) (PanD Tryd.prog Tryd.f78 [(2, t1), (3, t2)] R [{ target := .fn (.func 86) #[], args := #[t1, t2] }]))))))
(D (Instr.fieldAt 148 t4 0) w16 (fun t25 w25 =>
 D (L 26 t25) w25 (fun t26 w26 =>
 B Builtin.len #[26] 3 #[false] #[t26] w26 (fun t27 w27 =>
 D (binS BinOp.gtr 3 (T 25) (C (I 0)) t27 (I 0)) w27 (fun t28 w28 =>
 Br t28
(U (S 81 t1 (Value.slice none 0 0)) w28 (fun _ w29 =>
 U (S 35 t2 (I 7)) w29 (fun _ w30 =>
 LeavesE Tryd.prog Tryd.f78 [(2, t1), (3, t2)] R [{ target := .fn (.func 86) #[], args := #[t1, t2] }] .returning w30) (PanD Tryd.prog Tryd.f78 [(2, t1), (3, t2)] R [{ target := .fn (.func 86) #[], args := #[t1, t2] }])) (PanD Tryd.prog Tryd.f78 [(2, t1), (3, t2)] R [{ target := .fn (.func 86) #[], args := #[t1, t2] }]))
(D (L 81 t1) w28 (fun t31 w31 =>
 U (S 81 t1 t31) w31 (fun _ w32 =>
 U (S 35 t2 (I 0)) w32 (fun _ w33 =>
 LeavesE Tryd.prog Tryd.f78 [(2, t1), (3, t2)] R [{ target := .fn (.func 86) #[], args := #[t1, t2] }] .returning w33) (PanD Tryd.prog Tryd.f78 [(2, t1), (3, t2)] R [{ target := .fn (.func 86) #[], args := #[t1, t2] }])) (PanD Tryd.prog Tryd.f78 [(2, t1), (3, t2)] R [{ target := .fn (.func 86) #[], args := #[t1, t2] }])) (PanD Tryd.prog Tryd.f78 [(2, t1), (3, t2)] R [{ target := .fn (.func 86) #[], args := #[t1, t2] }]))) (PanD Tryd.prog Tryd.f78 [(2, t1), (3, t2)] R [{ target := .fn (.func 86) #[], args := #[t1, t2] }])) (PanD Tryd.prog Tryd.f78 [(2, t1), (3, t2)] R [{ target := .fn (.func 86) #[], args := #[t1, t2] }])) (PanD Tryd.prog Tryd.f78 [(2, t1), (3, t2)] R [{ target := .fn (.func 86) #[], args := #[t1, t2] }])) (PanD Tryd.prog Tryd.f78 [(2, t1), (3, t2)] R [{ target := .fn (.func 86) #[], args := #[t1, t2] }]))) (PanD Tryd.prog Tryd.f78 [(2, t1), (3, t2)] R [{ target := .fn (.func 86) #[], args := #[t1, t2] }])))) (PanD Tryd.prog Tryd.f78 [(2, t1), (3, t2)] R [{ target := .fn (.func 86) #[], args := #[t1, t2] }])) (PanD Tryd.prog Tryd.f78 [(2, t1), (3, t2)] R [{ target := .fn (.func 86) #[], args := #[t1, t2] }])) (PanD Tryd.prog Tryd.f78 [(2, t1), (3, t2)] R [{ target := .fn (.func 86) #[], args := #[t1, t2] }])) (PanD Tryd.prog Tryd.f78 [(2, t1), (3, t2)] R [{ target := .fn (.func 86) #[], args := #[t1, t2] }])) (PanD Tryd.prog Tryd.f78 [(2, t1), (3, undef)] R [])) (PanD Tryd.prog Tryd.f78 [(2, undef), (3, undef)] R []))
theorem sh_codec_Get_ok (v0 : Value) (h : sh_codec_Get v0 R w) : Calls Tryd.prog 78 #[v0] w R :=
  calls_of_vcD (c := Tryd.f78.body.getD .skip) (args := [v0]) [(8, 2, true, 2)] [16] follows_mixed Tryd.func78 rfl (of_decide_eq_true (by kernel_rfl)) (by kernel_rfl) (Eq.mp (by kernel_rfl) h)
def sh_journal_source_take (v0 : Value) (R : Ending → World → Prop) (w : World) : Prop := 
 letI X := Pan R
 letI D := DoV Tryd.prog
 letI I := Value.int IntKind.i64
 letI L := Instr.loadAt
 letI F := Instr.fieldAt
(JoinE [] (fun K1 =>
 NilC Tryd.prog v0 w (fun t2 w2 =>
 D (F 123 t2 0) w2 (fun t3 w3 =>
 D (L 81 t3) w3 (fun t4 w4 =>
 CallB Tryd.prog Builtin.len #[81] 3 #[false] #[t4] w4 (fun t5 w5 =>
 D (binS BinOp.eql 3 (Operand.tmp 8) (Operand.const (I 0)) t5 (I 0)) w5 (fun t6 w6 =>
 Br t6
(D (Instr.build 120 #[]) w6 (fun t7 w7 =>
 D (Instr.makeInterface 120 t7) w7 (fun t8 w8 =>
 D (Instr.panic t8) w8 (fun _ w9 =>
 K1 [] w9) X) X) X)
(K1 [] w6)) X) X) X) X) X)
(fun _ w10 =>
 NilC Tryd.prog v0 w10 (fun t11 w11 =>
 D (F 123 t11 0) w11 (fun t12 w12 =>
 D (L 81 t12) w12 (fun t13 w13 =>
 D (Instr.indexAt 81 t13 (I 0)) w13 (fun t14 w14 =>
 D (L 3 t14) w14 (fun t15 w15 =>
 NilC Tryd.prog v0 w15 (fun t16 w16 =>
 D (F 123 t16 0) w16 (fun t17 w17 =>
 D (L 81 t17) w17 (fun t18 w18 =>
 D (Instr.sliceAt 81 t18 (some (I 1)) none none) w18 (fun t19 w19 =>
 NilC Tryd.prog v0 w19 (fun t20 w20 =>
 D (F 123 t20 0) w20 (fun t21 w21 =>
 DoU Tryd.prog (Instr.storeAt 81 t21 t19) w21 (fun _ w22 =>
 R (.returned t15) w22) X) X) X) X) X) X) X) X) X) X) X) X))
theorem sh_journal_source_take_ok (v0 : Value) (h : sh_journal_source_take v0 R w) : Calls Tryd.prog 79 #[v0] w R :=
  calls_of_vc (c := Tryd.f79.body.getD .skip) (args := [v0]) [] [] follows_mixed Tryd.func79 rfl (of_decide_eq_true (by kernel_rfl)) (by kernel_rfl) (Eq.mp (by kernel_rfl) h)
def sh_journal_source_part (v0 : Value) (R : Ending → World → Prop) (w : World) : Prop := 
 letI X := Pan R
 letI D := DoV Tryd.prog
 letI I := Value.int IntKind.i64
(CallF Tryd.prog 79 #[v0] w (fun t1 w1 =>
 JoinE [] (fun K2 =>
 JoinE [11] (fun K3 =>
 D (binS BinOp.lss 3 (Operand.tmp 6) (Operand.const (I 0)) t1 (I 0)) w1 (fun t4 w4 =>
 Gd t4 false (D (binS BinOp.geq 3 (Operand.tmp 9) (Operand.const (I 4294967296)) t1 (I 4294967296)) w4 (fun t5 w5 =>
 K3 [t5] w5) X)
(K3 [(Value.bool true)] w4)) X)
(fun h6 w6 =>
 Br (h6 11)
(D (Instr.build 120 #[]) w6 (fun t7 w7 =>
 D (Instr.makeInterface 120 t7) w7 (fun t8 w8 =>
 D (Instr.panic t8) w8 (fun _ w9 =>
 K2 [] w9) X) X) X)
(K2 [] w6)))
(fun _ w10 =>
 D (convert 3 55 t1) w10 (fun t11 w11 =>
 R (.returned t11) w11) X)) X)
theorem sh_journal_source_part_ok (v0 : Value) (h : sh_journal_source_part v0 R w) : Calls Tryd.prog 80 #[v0] w R :=
  calls_of_vc (c := Tryd.f80.body.getD .skip) (args := [v0]) [] [] follows_mixed Tryd.func80 rfl (of_decide_eq_true (by kernel_rfl)) (by kernel_rfl) (Eq.mp (by kernel_rfl) h)
def sh_digest_run_1 (v0 v1 : Value) (R : Ending → World → Prop) (w : World) : Prop := 
 letI X := Pan R
 letI D := DoV Tryd.prog
 letI I := Value.int IntKind.i64
 letI T := Operand.tmp
(CallB Tryd.prog Builtin.len #[26] 3 #[false] #[v0] w (fun t1 w1 =>
 LoopE [7] [(I 0)] w1 (fun h2 w2 K2 =>
 D (binS BinOp.lss 3 (T 7) (T 6) (h2 7) t1) w2 (fun t3 w3 =>
 Br t3
(D (Instr.indexAt 26 v0 (h2 7)) w3 (fun t4 w4 =>
 D (Instr.loadAt 5 t4) w4 (fun t5 w5 =>
 D (Instr.loadAt 55 v1) w5 (fun t6 w6 =>
 D (convert 5 55 t5) w6 (fun t7 w7 =>
 D (binS BinOp.xor 55 (T 11) (T 13) t6 t7) w7 (fun t8 w8 =>
 D (binS BinOp.mul 55 (T 14) (Operand.const (Value.int IntKind.u64 1099511628211)) t8 (Value.int IntKind.u64 1099511628211)) w8 (fun t9 w9 =>
 DoU Tryd.prog (Instr.storeAt 55 v1 t9) w9 (fun _ w10 =>
 D (binS BinOp.add 3 (T 7) (Operand.const (I 1)) (h2 7) (I 1)) w10 (fun t11 w11 =>
 K2 [t11] w11) X) X) X) X) X) X) X) X)
(R (.returned (Value.tuple #[])) w3)) X)) X)
theorem sh_digest_run_1_ok (v0 v1 : Value) (h : sh_digest_run_1 v0 v1 R w) : Calls Tryd.prog 81 #[v0, v1] w R :=
  calls_of_vc (c := Tryd.f81.body.getD .skip) (args := [v0, v1]) [] [7] follows_mixed Tryd.func81 rfl (of_decide_eq_true (by kernel_rfl)) (by kernel_rfl) (Eq.mp (by kernel_rfl) h)
def sh_digest_run_2 (v0 : Value) (R : Ending → World → Prop) (w : World) : Prop := 
(DoV Tryd.prog (Instr.loadAt 55 v0) w (fun t1 w1 =>
 R (.returned t1) w1) (Pan R))
theorem sh_digest_run_2_ok (v0 : Value) (h : sh_digest_run_2 v0 R w) : Calls Tryd.prog 82 #[v0] w R :=
  calls_of_vc (c := Tryd.f82.body.getD .skip) (args := [v0]) [] [] follows_mixed Tryd.func82 rfl (of_decide_eq_true (by kernel_rfl)) (by kernel_rfl) (Eq.mp (by kernel_rfl) h)
def sh_codec_number (v0 : Value) (R : Ending → World → Prop) (w : World) : Prop := 
 letI X := Pan R
 letI D := DoV Tryd.prog
 letI T := Operand.tmp
(D (convert 3 55 v0) w (fun t1 w1 =>
 D (binS BinOp.shl 55 (T 4) (Operand.const (Value.int IntKind.u64 1)) t1 (Value.int IntKind.u64 1)) w1 (fun t2 w2 =>
 D (binS BinOp.shr 3 (T 6) (Operand.const (Value.int IntKind.u64 63)) v0 (Value.int IntKind.u64 63)) w2 (fun t3 w3 =>
 D (convert 3 55 t3) w3 (fun t4 w4 =>
 D (binS BinOp.xor 55 (T 5) (T 8) t2 t4) w4 (fun t5 w5 =>
 R (.returned t5) w5) X) X) X) X) X)
theorem sh_codec_number_ok (v0 : Value) (h : sh_codec_number v0 R w) : Calls Tryd.prog 84 #[v0] w R :=
  calls_of_vc (c := Tryd.f84.body.getD .skip) (args := [v0]) [] [] follows_mixed Tryd.func84 rfl (of_decide_eq_true (by kernel_rfl)) (by kernel_rfl) (Eq.mp (by kernel_rfl) h)
def sh_codec_caught (v0 v1 : Value) (rv : Value) (R : Ending → World → Prop) (w : World) : Prop := 
 letI X := Pan R
 letI D := DoV Tryd.prog
 letI U := DoU Tryd.prog
 letI S := Instr.storeAt
(D (binS BinOp.eql 20 (Operand.tmp 7) (Operand.const Value.nilIface) rv Value.nilIface) w (fun t1 w1 =>
 Br t1
(R (.returned (Value.tuple #[])) w1)
(D (Instr.typeAssert rv 20 151 true) w1 (fun t2 w2 =>
 D (Instr.extract t2 1) w2 (fun t3 w3 =>
 D (Instr.extract t2 0) w3 (fun t4 w4 =>
 Br t3
(D (Instr.alloc 151 true (.tuple #[])) w4 (fun t5 w5 =>
 U (S 151 t5 t4) w5 (fun _ w6 =>
 NilC Tryd.prog v0 w6 (fun t7 w7 =>
 U (S 81 t7 (Value.slice none 0 0)) w7 (fun _ w8 =>
 NilC Tryd.prog v1 w8 (fun t9 w9 =>
 U (S 35 t9 (Value.int IntKind.i64 7)) w9 (fun _ w10 =>
 R (.returned (Value.tuple #[])) w10) X) X) X) X) X) X)
(D (Instr.panic rv) w4 (fun _ w11 =>
 R (.returned (Value.tuple #[])) w11) X)) X) X) X)) X)
theorem sh_codec_caught_eq (v0 v1 : Value) (rv : Value) (R : Ending → World → Prop) (w : World) : vc Tryd.prog [] [] (match Tryd.f86.body with | some (.seq _ c) => c | _ => .skip) (endR R) ((7, some rv) :: argsE [v0, v1]) [] w = sh_codec_caught v0 v1 rv R w := by kernel_rfl
theorem sh_codec_caught_ok (v0 v1 : Value) {R : Ending → World → Prop} {u : FrameMode} {w : World} (h : sh_codec_caught v0 v1 (recV u) R w) : CallsD Tryd.prog 86 #[v0, v1] u w fun e u' w' => u' = recM u ∧ R e w' :=
  callsD_of_rec (args := [v0, v1]) [] [] follows_mixed Tryd.func86 rfl rfl (fun _ _ => rfl) rfl rfl (of_decide_eq_true (by kernel_rfl)) (of_decide_eq_true (by kernel_rfl)) (by kernel_rfl) ((sh_codec_caught_eq v0 v1 (recV u) R w).symm ▸ h)
def sh_codec_reader_next (v0 : Value) (R : Ending → World → Prop) (w : World) : Prop := 
 letI X := Pan R
 letI D := DoV Tryd.prog
 letI I := Value.int IntKind.i64
 letI T := Operand.tmp
 letI C := Operand.const
 letI L := Instr.loadAt
 letI F := Instr.fieldAt
(NilC Tryd.prog v0 w (fun t1 w1 =>
 D (F 148 t1 0) w1 (fun t2 w2 =>
 D (L 26 t2) w2 (fun t3 w3 =>
 CallB Tryd.prog Builtin.len #[26] 3 #[false] #[t3] w3 (fun t4 w4 =>
 LoopE [2, 3, 11] [(I 0), (Value.int IntKind.u64 0), (I 0)] w4 (fun h5 w5 K5 =>
 D (binS BinOp.lss 3 (T 11) (T 10) (h5 11) t4) w5 (fun t6 w6 =>
 Br t6
(D (Instr.indexAt 26 t3 (h5 11)) w6 (fun t7 w7 =>
 D (L 5 t7) w7 (fun t8 w8 =>
 JoinE [] (fun K9 =>
 JoinE [25] (fun K10 =>
 D (binS BinOp.eql 3 (T 16) (C (I 9)) (h5 11) (I 9)) w8 (fun t11 w11 =>
 Gd t11 true (D (binS BinOp.gtr 5 (T 19) (C (Value.int IntKind.u8 1)) t8 (Value.int IntKind.u8 1)) w11 (fun t12 w12 =>
 Gd t12 false (D (binS BinOp.gtr 3 (T 23) (C (I 9)) (h5 11) (I 9)) w12 (fun t13 w13 =>
 K10 [t13] w13) X)
(K10 [(Value.bool true)] w12)) X)
(D (binS BinOp.gtr 3 (T 23) (C (I 9)) (h5 11) (I 9)) w11 (fun t14 w14 =>
 K10 [t14] w14) X)) X)
(fun h15 w15 =>
 Br (h15 25)
(D (Instr.build 151 #[]) w15 (fun t16 w16 =>
 D (Instr.makeInterface 151 t16) w16 (fun t17 w17 =>
 D (Instr.panic t17) w17 (fun _ w18 =>
 K9 [] w18) X) X) X)
(K9 [] w15)))
(fun _ w19 =>
 D (binS BinOp.and 5 (T 29) (C (Value.int IntKind.u8 127)) t8 (Value.int IntKind.u8 127)) w19 (fun t20 w20 =>
 D (convert 5 55 t20) w20 (fun t21 w21 =>
 D (binS BinOp.mul 3 (C (I 7)) (T 32) (I 7) (h5 11)) w21 (fun t22 w22 =>
 D (binS BinOp.shl 55 (T 31) (T 33) t21 t22) w22 (fun t23 w23 =>
 D (binS BinOp.or 55 (T 28) (T 34) (h5 3) t23) w23 (fun t24 w24 =>
 D (binS BinOp.gtr 5 (T 36) (C (Value.int IntKind.u8 127)) t8 (Value.int IntKind.u8 127)) w24 (fun t25 w25 =>
 Br t25
(D (binS BinOp.add 3 (T 11) (C (I 1)) (h5 11) (I 1)) w25 (fun t26 w26 =>
 K5 [(h5 2), t24, t26] w26) X)
(JoinE [] (fun K27 =>
 JoinE [43] (fun K28 =>
 D (binS BinOp.eql 5 (T 38) (C (Value.int IntKind.u8 0)) t8 (Value.int IntKind.u8 0)) w25 (fun t29 w29 =>
 Gd t29 true (D (binS BinOp.gtr 3 (T 41) (C (I 0)) (h5 11) (I 0)) w29 (fun t30 w30 =>
 K28 [t30] w30) X)
(K28 [(Value.bool false)] w29)) X)
(fun h31 w31 =>
 Br (h31 43)
(D (Instr.build 151 #[]) w31 (fun t32 w32 =>
 D (Instr.makeInterface 151 t32) w32 (fun t33 w33 =>
 D (Instr.panic t33) w33 (fun _ w34 =>
 K27 [] w34) X) X) X)
(K27 [] w31)))
(fun _ w35 =>
 NilC Tryd.prog v0 w35 (fun t36 w36 =>
 D (F 148 t36 0) w36 (fun t37 w37 =>
 D (L 26 t37) w37 (fun t38 w38 =>
 D (binS BinOp.add 3 (T 51) (C (I 1)) (h5 11) (I 1)) w38 (fun t39 w39 =>
 D (Instr.sliceAt 26 t38 (some t39) none none) w39 (fun t40 w40 =>
 NilC Tryd.prog v0 w40 (fun t41 w41 =>
 D (F 148 t41 0) w41 (fun t42 w42 =>
 DoU Tryd.prog (Instr.storeAt 26 t42 t40) w42 (fun _ w43 =>
 D (binS BinOp.shr 55 (T 56) (C (Value.int IntKind.u64 1)) t24 (Value.int IntKind.u64 1)) w43 (fun t44 w44 =>
 D (convert 55 3 t44) w44 (fun t45 w45 =>
 D (binS BinOp.and 55 (T 59) (C (Value.int IntKind.u64 1)) t24 (Value.int IntKind.u64 1)) w45 (fun t46 w46 =>
 D (convert 55 3 t46) w46 (fun t47 w47 =>
 D (Op.unary UnOp.neg t47) w47 (fun t48 w48 =>
 D (binS BinOp.xor 3 (T 58) (T 62) t45 t48) w48 (fun t49 w49 =>
 R (.returned t49) w49) X) X) X) X) X) X) X) X) X) X) X) X) X) X))) X) X) X) X) X) X)) X) X)
(D (Instr.build 151 #[]) w6 (fun t50 w50 =>
 D (Instr.makeInterface 151 t50) w50 (fun t51 w51 =>
 D (Instr.panic t51) w51 (fun _ w52 =>
 R (.returned (h5 2)) w52) X) X) X)) X)) X) X) X) X)
theorem sh_codec_reader_next_ok (v0 : Value) (h : sh_codec_reader_next v0 R w) : Calls Tryd.prog 87 #[v0] w R :=
  calls_of_vc (c := Tryd.f87.body.getD .skip) (args := [v0]) [] [2, 3, 11] follows_mixed Tryd.func87 rfl (of_decide_eq_true (by kernel_rfl)) (by kernel_rfl) (Eq.mp (by kernel_rfl) h)
end Go.Proofs.YtoeblipchoglaaaDoor
