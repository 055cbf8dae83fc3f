/- The chains of operations of some functions of the program. -/
import Derived.Test.YtnbcdaonkdffkaaGreatDoorFBaseA
import Derived.Test.YtnbcdaonkdffkaaGreatDoorProg
import Derived.KernelRfl
set_option linter.unusedVariables false
set_option linter.unusedSimpArgs false
namespace Go.Proofs.YtnbcdaonkdffkaaGreatDoor
open Sh
variable {R : Ending → World → Prop} {w : World}
set_option maxRecDepth 100000
theorem follows_mixed : Tryz.prog.follows .mixedOrders = true := by kernel_rfl
def sh_digest_Sum (v0 : Value) (R : Ending → World → Prop) (w : World) : Prop := 
(CallF Tryz.prog 105 #[(Value.int IntKind.u64 14695981039346656037), v0] w (fun t1 w1 =>
 R (.returned t1) w1) (Pan R))
theorem sh_digest_Sum_ok (v0 : Value) (h : sh_digest_Sum v0 R w) : Calls Tryz.prog 68 #[v0] w R :=
  calls_of_vc (c := Tryz.f68.body.getD .skip) (args := [v0]) [] [] follows_mixed Tryz.func68 rfl (of_decide_eq_true (by kernel_rfl)) (by kernel_rfl) (Eq.mp (by kernel_rfl) h)
def sh_landfallref05_Sum (v0 : Value) (R : Ending → World → Prop) (w : World) : Prop := 
 letI Q := CallF Tryz.prog
(Q 107 #[(Value.string { data := #[] })] w (fun t1 w1 =>
 Q 106 #[t1, v0] w1 (fun t2 w2 =>
 R (.returned t2) w2) (Pan R)) (Pan R))
theorem sh_landfallref05_Sum_ok (v0 : Value) (h : sh_landfallref05_Sum v0 R w) : Calls Tryz.prog 69 #[v0] w R :=
  calls_of_vc (c := Tryz.f69.body.getD .skip) (args := [v0]) [] [] follows_mixed Tryz.func69 rfl (of_decide_eq_true (by kernel_rfl)) (by kernel_rfl) (Eq.mp (by kernel_rfl) h)
def sh_digest_Next (v0 v1 : Value) (R : Ending → World → Prop) (w : World) : Prop := 
 letI X := Pan R
 letI D := DoV Tryz.prog
 letI Q := CallF Tryz.prog
 letI I := Value.int IntKind.i64
 letI T := Operand.tmp
 letI C := Operand.const
 letI E := Instr.extract
(Q 128 #[] w (fun t1 w1 =>
 D (E t1 0) w1 (fun t2 w2 =>
 D (E t1 1) w2 (fun t3 w3 =>
 LoopE [7] [(I 56)] w3 (fun h4 w4 K4 =>
 D (binS BinOp.geq 3 (T 16) (C (I 0)) (h4 7) (I 0)) w4 (fun t5 w5 =>
 Br t5
(D (binS BinOp.shr 48 (T 21) (T 22) v0 (h4 7)) w5 (fun t6 w6 =>
 D (convert 48 5 t6) w6 (fun t7 w7 =>
 D (Instr.buildSlice 158 1 #[(0, t7)]) w7 (fun t8 w8 =>
 CallV Tryz.prog t2 #[t8] w8 (fun _ w9 =>
 D (binS BinOp.sub 3 (T 18) (C (I 8)) (h4 7) (I 8)) w9 (fun t10 w10 =>
 K4 [t10] w10) X) X) X) X) X)
(CallB Tryz.prog Builtin.len #[36] 3 #[false] #[v1] w5 (fun t11 w11 =>
 LoopE [29] [(I 0)] w11 (fun h12 w12 K12 =>
 D (binS BinOp.lss 3 (T 29) (T 28) (h12 29) t11) w12 (fun t13 w13 =>
 Br t13
(D (Instr.indexAt 36 v1 (h12 29)) w13 (fun t14 w14 =>
 D (Instr.loadAt 3 t14) w14 (fun t15 w15 =>
 Q 129 #[t15] w15 (fun t16 w16 =>
 D (Instr.range 9 t16) w16 (fun t17 w17 =>
 LoopE [] [] w17 (fun h18 w18 K18 =>
 D (Instr.next t17 true 0) w18 (fun t19 w19 =>
 D (E t19 0) w19 (fun t20 w20 =>
 Br t20
(D (E t19 2) w20 (fun t21 w21 =>
 D (convert 21 5 t21) w21 (fun t22 w22 =>
 D (Instr.buildSlice 158 1 #[(0, t22)]) w22 (fun t23 w23 =>
 CallV Tryz.prog t2 #[t23] w23 (fun _ w24 =>
 K18 [] w24) X) X) X) X)
(D (Instr.buildSlice 158 1 #[(0, (Value.int IntKind.u8 32))]) w20 (fun t25 w25 =>
 CallV Tryz.prog t2 #[t25] w25 (fun _ w26 =>
 D (binS BinOp.add 3 (T 29) (C (I 1)) (h12 29) (I 1)) w26 (fun t27 w27 =>
 K12 [t27] w27) X) X) X)) X) X)) X) X) X) X)
(CallV Tryz.prog t3 #[] w13 (fun t28 w28 =>
 R (.returned t28) w28) X)) X)) X)) X)) X) X) X)
theorem sh_digest_Next_ok (v0 v1 : Value) (h : sh_digest_Next v0 v1 R w) : Calls Tryz.prog 105 #[v0, v1] w R :=
  calls_of_vc (c := Tryz.f105.body.getD .skip) (args := [v0, v1]) [] [7, 29] follows_mixed Tryz.func105 rfl (of_decide_eq_true (by kernel_rfl)) (by kernel_rfl) (Eq.mp (by kernel_rfl) h)
def sh_landfallref05_Next (v0 v1 : Value) (R : Ending → World → Prop) (w : World) : Prop := 
 letI X := Pan R
 letI Q := CallF Tryz.prog
(Q 130 #[v0, v1] w (fun t1 w1 =>
 DoV Tryz.prog (convert 158 9 t1) w1 (fun t2 w2 =>
 Q 107 #[t2] w2 (fun t3 w3 =>
 R (.returned t3) w3) X) X) X)
theorem sh_landfallref05_Next_ok (v0 v1 : Value) (h : sh_landfallref05_Next v0 v1 R w) : Calls Tryz.prog 106 #[v0, v1] w R :=
  calls_of_vc (c := Tryz.f106.body.getD .skip) (args := [v0, v1]) [] [] follows_mixed Tryz.func106 rfl (of_decide_eq_true (by kernel_rfl)) (by kernel_rfl) (Eq.mp (by kernel_rfl) h)
def sh_landfallref05_Text (v0 : Value) (R : Ending → World → Prop) (w : World) : Prop := 
 letI X := Pan R
 letI D := DoV Tryz.prog
 letI I := Value.int IntKind.i64
 letI T := Operand.tmp
(LoopE [3, 4] [(Value.int IntKind.u64 14695981039346656037), (I 0)] w (fun h1 w1 K1 =>
 CallB Tryz.prog Builtin.len #[9] 3 #[false] #[v0] w1 (fun t2 w2 =>
 D (binS BinOp.lss 3 (T 5) (T 7) (h1 4) t2) w2 (fun t3 w3 =>
 Br t3
(D (Instr.index 9 v0 (h1 4)) w3 (fun t4 w4 =>
 D (convert 5 48 t4) w4 (fun t5 w5 =>
 D (binS BinOp.xor 48 (T 11) (T 15) (h1 3) t5) w5 (fun t6 w6 =>
 D (binS BinOp.mul 48 (T 16) (Operand.const (Value.int IntKind.u64 1099511628211)) t6 (Value.int IntKind.u64 1099511628211)) w6 (fun t7 w7 =>
 D (binS BinOp.add 3 (T 9) (Operand.const (I 1)) (h1 4) (I 1)) w7 (fun t8 w8 =>
 K1 [t7, t8] w8) X) X) X) X) X)
(R (.returned (h1 3)) w3)) X) X))
theorem sh_landfallref05_Text_ok (v0 : Value) (h : sh_landfallref05_Text v0 R w) : Calls Tryz.prog 107 #[v0] w R :=
  calls_of_vc (c := Tryz.f107.body.getD .skip) (args := [v0]) [] [3, 4] follows_mixed Tryz.func107 rfl (of_decide_eq_true (by kernel_rfl)) (by kernel_rfl) (Eq.mp (by kernel_rfl) h)
def sh_digest_run (R : Ending → World → Prop) (w : World) : Prop := 
 letI X := Pan R
 letI D := DoV Tryz.prog
(D (Instr.alloc 48 true (.tuple #[])) w (fun t1 w1 =>
 DoU Tryz.prog (Instr.storeAt 48 t1 (Value.int IntKind.u64 14695981039346656037)) w1 (fun _ w2 =>
 D (Instr.makeFunc (Fn.func 138) #[] #[t1]) w2 (fun t3 w3 =>
 D (Instr.makeFunc (Fn.func 139) #[] #[t1]) w3 (fun t4 w4 =>
 R (.returned (Value.tuple #[t3, t4])) w4) X) X) X) X)
theorem sh_digest_run_ok (h : sh_digest_run  R w) : Calls Tryz.prog 128 #[] w R :=
  calls_of_vc (c := Tryz.f128.body.getD .skip) (args := []) [] [] follows_mixed Tryz.func128 rfl (of_decide_eq_true (by kernel_rfl)) (by kernel_rfl) (Eq.mp (by kernel_rfl) h)
def sh_landfallref05_Bytes (v0 v1 : Value) (R : Ending → World → Prop) (w : World) : Prop := 
 letI X := Pan R
 letI D := DoV Tryz.prog
 letI B := CallB Tryz.prog
 letI I := Value.int IntKind.i64
 letI T := Operand.tmp
 letI C := Operand.const
(LoopE [5, 6] [(Value.slice none 0 0), (I 0)] w (fun h1 w1 K1 =>
 D (binS BinOp.lss 3 (T 8) (C (I 8)) (h1 6) (I 8)) w1 (fun t2 w2 =>
 Br t2
(D (binS BinOp.mul 3 (C (I 8)) (T 14) (I 8) (h1 6)) w2 (fun t3 w3 =>
 D (binS BinOp.sub 3 (C (I 56)) (T 15) (I 56) t3) w3 (fun t4 w4 =>
 D (binS BinOp.shr 48 (T 13) (T 16) v0 t4) w4 (fun t5 w5 =>
 D (convert 48 5 t5) w5 (fun t6 w6 =>
 D (Instr.buildSlice 158 1 #[(0, t6)]) w6 (fun t7 w7 =>
 B Builtin.append #[158, 158] 158 #[false, false] #[(h1 5), t7] w7 (fun t8 w8 =>
 D (binS BinOp.add 3 (T 10) (C (I 1)) (h1 6) (I 1)) w8 (fun t9 w9 =>
 K1 [t8, t9] w9) X) X) X) X) X) X) X)
(LoopE [5, 7] [(h1 5), (I 0)] w2 (fun h10 w10 K10 =>
 B Builtin.len #[36] 3 #[false] #[v1] w10 (fun t11 w11 =>
 D (binS BinOp.lss 3 (T 21) (T 23) (h10 7) t11) w11 (fun t12 w12 =>
 Br t12
(D (Instr.indexAt 36 v1 (h10 7)) w12 (fun t13 w13 =>
 D (Instr.loadAt 3 t13) w13 (fun t14 w14 =>
 CallF Tryz.prog 141 #[t14] w14 (fun t15 w15 =>
 B Builtin.append #[158, 9] 158 #[false, false] #[(h10 5), t15] w15 (fun t16 w16 =>
 D (Instr.buildSlice 158 1 #[(0, (Value.int IntKind.u8 32))]) w16 (fun t17 w17 =>
 B Builtin.append #[158, 158] 158 #[false, false] #[t16, t17] w17 (fun t18 w18 =>
 D (binS BinOp.add 3 (T 25) (C (I 1)) (h10 7) (I 1)) w18 (fun t19 w19 =>
 K10 [t18, t19] w19) X) X) X) X) X) X) X)
(R (.returned (h10 5)) w12)) X) X))) X))
theorem sh_landfallref05_Bytes_ok (v0 v1 : Value) (h : sh_landfallref05_Bytes v0 v1 R w) : Calls Tryz.prog 130 #[v0, v1] w R :=
  calls_of_vc (c := Tryz.f130.body.getD .skip) (args := [v0, v1]) [] [5, 6, 7] follows_mixed Tryz.func130 rfl (of_decide_eq_true (by kernel_rfl)) (by kernel_rfl) (Eq.mp (by kernel_rfl) h)
def sh_digest_run_1 (v0 v1 : Value) (R : Ending → World → Prop) (w : World) : Prop := 
 letI X := Pan R
 letI D := DoV Tryz.prog
 letI I := Value.int IntKind.i64
 letI T := Operand.tmp
(CallB Tryz.prog Builtin.len #[158] 3 #[false] #[v0] w (fun t1 w1 =>
 LoopE [7] [(I 0)] w1 (fun h2 w2 K2 =>
 D (binS BinOp.lss 3 (T 7) (T 6) (h2 7) t1) w2 (fun t3 w3 =>
 Br t3
(D (Instr.indexAt 158 v0 (h2 7)) w3 (fun t4 w4 =>
 D (Instr.loadAt 5 t4) w4 (fun t5 w5 =>
 D (Instr.loadAt 48 v1) w5 (fun t6 w6 =>
 D (convert 5 48 t5) w6 (fun t7 w7 =>
 D (binS BinOp.xor 48 (T 11) (T 13) t6 t7) w7 (fun t8 w8 =>
 D (binS BinOp.mul 48 (T 14) (Operand.const (Value.int IntKind.u64 1099511628211)) t8 (Value.int IntKind.u64 1099511628211)) w8 (fun t9 w9 =>
 DoU Tryz.prog (Instr.storeAt 48 v1 t9) w9 (fun _ w10 =>
 D (binS BinOp.add 3 (T 7) (Operand.const (I 1)) (h2 7) (I 1)) w10 (fun t11 w11 =>
 K2 [t11] w11) X) X) X) X) X) X) X) X)
(R (.returned (Value.tuple #[])) w3)) X)) X)
theorem sh_digest_run_1_ok (v0 v1 : Value) (h : sh_digest_run_1 v0 v1 R w) : Calls Tryz.prog 138 #[v0, v1] w R :=
  calls_of_vc (c := Tryz.f138.body.getD .skip) (args := [v0, v1]) [] [7] follows_mixed Tryz.func138 rfl (of_decide_eq_true (by kernel_rfl)) (by kernel_rfl) (Eq.mp (by kernel_rfl) h)
def sh_digest_run_2 (v0 : Value) (R : Ending → World → Prop) (w : World) : Prop := 
(DoV Tryz.prog (Instr.loadAt 48 v0) w (fun t1 w1 =>
 R (.returned t1) w1) (Pan R))
theorem sh_digest_run_2_ok (v0 : Value) (h : sh_digest_run_2 v0 R w) : Calls Tryz.prog 139 #[v0] w R :=
  calls_of_vc (c := Tryz.f139.body.getD .skip) (args := [v0]) [] [] follows_mixed Tryz.func139 rfl (of_decide_eq_true (by kernel_rfl)) (by kernel_rfl) (Eq.mp (by kernel_rfl) h)
def sh_landfallref05_Decimal (v0 : Value) (R : Ending → World → Prop) (w : World) : Prop := 
 letI X := Pan R
 letI D := DoV Tryz.prog
 letI B := CallB Tryz.prog
 letI I := Value.int IntKind.i64
 letI T := Operand.tmp
 letI C := Operand.const
(D (binS BinOp.eql 3 (T 8) (C (I 0)) v0 (I 0)) w (fun t1 w1 =>
 Br t1
(R (.returned (Value.string { data := #[48] })) w1)
(LoopE [3, 4, 5] [(Value.slice none 0 0), v0, undef] w1 (fun h2 w2 K2 =>
 D (binS BinOp.neq 3 (T 11) (C (I 0)) (h2 4) (I 0)) w2 (fun t3 w3 =>
 Br t3
(JoinE [3, 5] (fun K4 =>
 D (binS BinOp.rem 3 (T 15) (C (I 10)) (h2 4) (I 10)) w3 (fun t5 w5 =>
 JoinE [5] (fun K6 =>
 D (binS BinOp.lss 3 (T 17) (C (I 0)) t5 (I 0)) w5 (fun t7 w7 =>
 Br t7
(D (Op.unary UnOp.neg t5) w7 (fun t8 w8 =>
 K6 [t8] w8) X)
(K6 [t5] w7)) X)
(fun h9 w9 =>
 D (binS BinOp.add 3 (C (I 48)) (T 22) (I 48) (h9 5)) w9 (fun t10 w10 =>
 D (convert 3 5 t10) w10 (fun t11 w11 =>
 D (Instr.buildSlice 158 1 #[(0, t11)]) w11 (fun t12 w12 =>
 B Builtin.append #[158, 158] 158 #[false, false] #[(h2 3), t12] w12 (fun t13 w13 =>
 K4 [t13, (h9 5)] w13) X) X) X) X)) X)
(fun h14 w14 =>
 D (binS BinOp.quo 3 (T 13) (C (I 10)) (h2 4) (I 10)) w14 (fun t15 w15 =>
 K2 [(h14 3), t15, (h14 5)] w15) X))
(JoinE [3] (fun K16 =>
 D (binS BinOp.lss 3 (T 27) (C (I 0)) v0 (I 0)) w3 (fun t17 w17 =>
 Br t17
(D (Instr.buildSlice 158 1 #[(0, (Value.int IntKind.u8 45))]) w17 (fun t18 w18 =>
 B Builtin.append #[158, 158] 158 #[false, false] #[(h2 3), t18] w18 (fun t19 w19 =>
 K16 [t19] w19) X) X)
(K16 [(h2 3)] w17)) X)
(fun h20 w20 =>
 B Builtin.len #[158] 3 #[false] #[(h20 3)] w20 (fun t21 w21 =>
 D (binS BinOp.sub 3 (T 33) (C (I 1)) t21 (I 1)) w21 (fun t22 w22 =>
 LoopE [6, 7] [(Value.slice none 0 0), t22] w22 (fun h23 w23 K23 =>
 D (binS BinOp.geq 3 (T 35) (C (I 0)) (h23 7) (I 0)) w23 (fun t24 w24 =>
 Br t24
(D (Instr.indexAt 158 (h20 3) (h23 7)) w24 (fun t25 w25 =>
 D (Instr.loadAt 5 t25) w25 (fun t26 w26 =>
 D (Instr.buildSlice 158 1 #[(0, t26)]) w26 (fun t27 w27 =>
 B Builtin.append #[158, 158] 158 #[false, false] #[(h23 6), t27] w27 (fun t28 w28 =>
 D (binS BinOp.sub 3 (T 37) (C (I 1)) (h23 7) (I 1)) w28 (fun t29 w29 =>
 K23 [t28, t29] w29) X) X) X) X) X)
(D (convert 158 9 (h23 6)) w24 (fun t30 w30 =>
 R (.returned t30) w30) X)) X)) X) X))) X))) X)
theorem sh_landfallref05_Decimal_ok (v0 : Value) (h : sh_landfallref05_Decimal v0 R w) : Calls Tryz.prog 141 #[v0] w R :=
  calls_of_vc (c := Tryz.f141.body.getD .skip) (args := [v0]) [] [3, 4, 5, 6, 7] follows_mixed Tryz.func141 rfl (of_decide_eq_true (by kernel_rfl)) (by kernel_rfl) (Eq.mp (by kernel_rfl) h)
end Go.Proofs.YtnbcdaonkdffkaaGreatDoor
