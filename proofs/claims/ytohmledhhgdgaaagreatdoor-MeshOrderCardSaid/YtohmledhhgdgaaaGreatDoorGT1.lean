/- The chains of operations of some functions of the program. -/
import Derived.Test.YtohmledhhgdgaaaGreatDoorGBaseA
import Derived.Test.YtohmledhhgdgaaaGreatDoorProg
import Derived.KernelRfl
set_option linter.unusedVariables false
set_option linter.unusedSimpArgs false
namespace Go.Proofs.YtohmledhhgdgaaaGreatDoor
open Sh
variable {R : Ending → World → Prop} {w : World}
set_option maxRecDepth 100000
theorem follows_mixed : Tryz.prog.follows .mixedOrders = true := by kernel_rfl
def sh_digest_Sum (v0 : Value) (R : Ending → World → Prop) (w : World) : Prop := 
(CallF Tryz.prog 48 #[(Value.int IntKind.u64 14695981039346656037), v0] w (fun t1 w1 =>
 R (.returned t1) w1) (Pan R))
theorem sh_digest_Sum_ok (v0 : Value) (h : sh_digest_Sum v0 R w) : Calls Tryz.prog 46 #[v0] w R :=
  calls_of_vc (c := Tryz.f46.body.getD .skip) (args := [v0]) [] [] follows_mixed Tryz.func46 rfl (of_decide_eq_true (by kernel_rfl)) (by kernel_rfl) (Eq.mp (by kernel_rfl) h)
def sh_digest_Next (v0 v1 : Value) (R : Ending → World → Prop) (w : World) : Prop := 
 letI X := Pan R
 letI D := DoV Tryz.prog
 letI Q := CallF Tryz.prog
 letI I := Value.int IntKind.i64
 letI T := Operand.tmp
 letI C := Operand.const
 letI E := Instr.extract
(Q 81 #[] w (fun t1 w1 =>
 D (E t1 0) w1 (fun t2 w2 =>
 D (E t1 1) w2 (fun t3 w3 =>
 LoopE [7] [(I 56)] w3 (fun h4 w4 K4 =>
 D (binS BinOp.geq 3 (T 16) (C (I 0)) (h4 7) (I 0)) w4 (fun t5 w5 =>
 Br t5
(D (binS BinOp.shr 26 (T 21) (T 22) v0 (h4 7)) w5 (fun t6 w6 =>
 D (convert 26 5 t6) w6 (fun t7 w7 =>
 D (Instr.buildSlice 151 1 #[(0, t7)]) w7 (fun t8 w8 =>
 CallV Tryz.prog t2 #[t8] w8 (fun _ w9 =>
 D (binS BinOp.sub 3 (T 18) (C (I 8)) (h4 7) (I 8)) w9 (fun t10 w10 =>
 K4 [t10] w10) X) X) X) X) X)
(CallB Tryz.prog Builtin.len #[91] 3 #[false] #[v1] w5 (fun t11 w11 =>
 LoopE [29] [(I 0)] w11 (fun h12 w12 K12 =>
 D (binS BinOp.lss 3 (T 29) (T 28) (h12 29) t11) w12 (fun t13 w13 =>
 Br t13
(D (Instr.indexAt 91 v1 (h12 29)) w13 (fun t14 w14 =>
 D (Instr.loadAt 3 t14) w14 (fun t15 w15 =>
 Q 82 #[t15] w15 (fun t16 w16 =>
 D (Instr.range 9 t16) w16 (fun t17 w17 =>
 LoopE [] [] w17 (fun h18 w18 K18 =>
 D (Instr.next t17 true 0) w18 (fun t19 w19 =>
 D (E t19 0) w19 (fun t20 w20 =>
 Br t20
(D (E t19 2) w20 (fun t21 w21 =>
 D (convert 21 5 t21) w21 (fun t22 w22 =>
 D (Instr.buildSlice 151 1 #[(0, t22)]) w22 (fun t23 w23 =>
 CallV Tryz.prog t2 #[t23] w23 (fun _ w24 =>
 K18 [] w24) X) X) X) X)
(D (Instr.buildSlice 151 1 #[(0, (Value.int IntKind.u8 32))]) w20 (fun t25 w25 =>
 CallV Tryz.prog t2 #[t25] w25 (fun _ w26 =>
 D (binS BinOp.add 3 (T 29) (C (I 1)) (h12 29) (I 1)) w26 (fun t27 w27 =>
 K12 [t27] w27) X) X) X)) X) X)) X) X) X) X)
(CallV Tryz.prog t3 #[] w13 (fun t28 w28 =>
 R (.returned t28) w28) X)) X)) X)) X)) X) X) X)
theorem sh_digest_Next_ok (v0 v1 : Value) (h : sh_digest_Next v0 v1 R w) : Calls Tryz.prog 48 #[v0, v1] w R :=
  calls_of_vc (c := Tryz.f48.body.getD .skip) (args := [v0, v1]) [] [7, 29] follows_mixed Tryz.func48 rfl (of_decide_eq_true (by kernel_rfl)) (by kernel_rfl) (Eq.mp (by kernel_rfl) h)
def sh_sign_Verify (v0 v1 v2 : Value) (R : Ending → World → Prop) (w : World) : Prop := 
 letI X := Pan R
 letI D := DoV Tryz.prog
 letI Q := CallF Tryz.prog
 letI I := Value.int IntKind.i64
 letI T := Operand.tmp
 letI C := Operand.const
 letI L := Instr.loadAt
 letI F := Instr.fieldAt
 letI V := Value.bool
(D (Instr.box 28 v1) w (fun t1 w1 =>
 JoinE [] (fun K2 =>
 JoinE [23] (fun K3 =>
 Q 88 #[v0] w1 (fun t4 w4 =>
 D (Op.unary UnOp.not t4) w4 (fun t5 w5 =>
 Gd t5 false (D (F 28 t1 0) w5 (fun t6 w6 =>
 D (L 3 t6) w6 (fun t7 w7 =>
 Q 89 #[t7, (I 0)] w7 (fun t8 w8 =>
 D (Op.unary UnOp.not t8) w8 (fun t9 w9 =>
 Gd t9 false (D (F 28 t1 1) w9 (fun t10 w10 =>
 D (L 3 t10) w10 (fun t11 w11 =>
 Q 89 #[t11, (I 0)] w11 (fun t12 w12 =>
 D (Op.unary UnOp.not t12) w12 (fun t13 w13 =>
 K3 [t13] w13) X) X) X) X)
(K3 [(V true)] w9)) X) X) X) X)
(K3 [(V true)] w5)) X) X)
(fun h14 w14 =>
 Br (h14 23)
(R (.returned (Value.tuple #[(V false), (I 1)])) w14)
(K2 [] w14)))
(fun _ w15 =>
 DrawE w15 (fun Rs16 Rb16 w16 =>
 DetOp Rb16 Rs16 w16 (fun w17 K17 => D (F 28 t1 1) w17 K17 X) (fun c24_17 ψ17 =>
 DetOp Rb16 Rs16 w16 (fun w18 K18 => D (L 3 c24_17) w18 K18 X) (fun c25_18 ψ18 =>
 DetOp Rs16 Rb16 w16 (fun w19 K19 => Q 90 #[(I 4), c25_18] w19 K19 X) (fun c26_19 ψ19 =>
 DetOp Rb16 Rs16 w16 (fun w20 K20 => D (F 28 t1 0) w20 K20 X) (fun c28_20 ψ20 =>
 DetOp Rb16 Rs16 w16 (fun w21 K21 => D (L 3 c28_20) w21 K21 X) (fun c29_21 ψ21 =>
 DetOp Rb16 Rs16 w16 (fun w22 K22 => D (binS BinOp.sub 3 (C (I 1073741789)) (T 29) (I 1073741789) c29_21) w22 K22 X) (fun c30_22 ψ22 =>
 DetOp Rb16 Rs16 w16 (fun w23 K23 => D (binS BinOp.rem 3 (T 30) (C (I 1073741789)) c30_22 (I 1073741789)) w23 K23 X) (fun c31_23 ψ23 =>
 ∀ w24, Rb16 w16 w24 → (((((((True ∧ ψ17 w24) ∧ ψ18 w24) ∧ ψ19 w24) ∧ ψ20 w24) ∧ ψ21 w24) ∧ ψ22 w24) ∧ ψ23 w24) →
 Q 90 #[v0, c31_23] w24 (fun t25 w25 =>
 D (binS BinOp.mul 3 (T 26) (T 32) c26_19 t25) w25 (fun t26 w26 =>
 D (binS BinOp.rem 3 (T 33) (C (I 2147483579)) t26 (I 2147483579)) w26 (fun t27 w27 =>
 DrawE w27 (fun Rs28 Rb28 w28 =>
 DetOp Rb28 Rs28 w28 (fun w29 K29 => D (L 28 t1) w29 K29 X) (fun c35_29 ψ29 =>
 DetOp Rs28 Rb28 w28 (fun w30 K30 => Q 91 #[t27, v0, v2] w30 K30 X) (fun c39_30 ψ30 =>
 DetOp Rb28 Rs28 w28 (fun w31 K31 => D (F 28 t1 1) w31 K31 X) (fun c40_31 ψ31 =>
 DetOp Rb28 Rs28 w28 (fun w32 K32 => D (L 3 c40_31) w32 K32 X) (fun c41_32 ψ32 =>
 DetOp Rb28 Rs28 w28 (fun w33 K33 => D (Instr.build 28 #[(0, c39_30), (1, c41_32)]) w33 K33 X) (fun c42_33 ψ33 =>
 ∀ w34, Rb28 w28 w34 → (((((True ∧ ψ29 w34) ∧ ψ30 w34) ∧ ψ31 w34) ∧ ψ32 w34) ∧ ψ33 w34) →
 D (binS BinOp.eql 28 (T 35) (T 42) c35_29 c42_33) w34 (fun t35 w35 =>
 R (.returned (Value.tuple #[t35, (I 0)])) w35) X))))))) X) X) X)))))))))) X)
theorem sh_sign_Verify_ok (v0 v1 v2 : Value) (h : sh_sign_Verify v0 v1 v2 R w) : Calls Tryz.prog 54 #[v0, v1, v2] w R :=
  calls_of_vc (c := Tryz.f54.body.getD .skip) (args := [v0, v1, v2]) [(3, 8, false, 3), (4, 8, false, 5)] [] follows_mixed Tryz.func54 rfl (of_decide_eq_true (by kernel_rfl)) (by kernel_rfl) (Eq.mp (by kernel_rfl) h)
def sh_sign_Sign (v0 v1 v2 : Value) (R : Ending → World → Prop) (w : World) : Prop := 
 letI X := Pan R
 letI D := DoV Tryz.prog
 letI Q := CallF Tryz.prog
 letI I := Value.int IntKind.i64
(D (Instr.alloc 28 true (.tuple #[])) w (fun t1 w1 =>
 JoinE [] (fun K2 =>
 JoinE [15] (fun K3 =>
 Q 89 #[v0, (I 1)] w1 (fun t4 w4 =>
 D (Op.unary UnOp.not t4) w4 (fun t5 w5 =>
 Gd t5 false (Q 89 #[v1, (I 1)] w5 (fun t6 w6 =>
 D (Op.unary UnOp.not t6) w6 (fun t7 w7 =>
 K3 [t7] w7) X) X)
(K3 [(Value.bool true)] w5)) X) X)
(fun h8 w8 =>
 Br (h8 15)
(D (Instr.build 28 #[]) w8 (fun t9 w9 =>
 DoU Tryz.prog (Instr.storeAt 28 t1 t9) w9 (fun _ w10 =>
 Res Tryz.prog [.cell t1 28, .tmp (I 1)] w10 R) X) X)
(K2 [] w8)))
(fun _ w11 =>
 Q 96 #[v0, v1, v2] w11 (fun t12 w12 =>
 DoU Tryz.prog (Instr.storeAt 28 t1 t12) w12 (fun _ w13 =>
 Res Tryz.prog [.cell t1 28, .tmp (I 0)] w13 R) X) X)) X)
theorem sh_sign_Sign_ok (v0 v1 v2 : Value) (h : sh_sign_Sign v0 v1 v2 R w) : Calls Tryz.prog 63 #[v0, v1, v2] w R :=
  calls_of_vc (c := Tryz.f63.body.getD .skip) (args := [v0, v1, v2]) [] [] follows_mixed Tryz.func63 rfl (of_decide_eq_true (by kernel_rfl)) (by kernel_rfl) (Eq.mp (by kernel_rfl) h)
def sh_landfallref05_Sum (v0 : Value) (R : Ending → World → Prop) (w : World) : Prop := 
 letI Q := CallF Tryz.prog
(Q 97 #[(Value.string { data := #[] })] w (fun t1 w1 =>
 Q 85 #[t1, v0] w1 (fun t2 w2 =>
 R (.returned t2) w2) (Pan R)) (Pan R))
theorem sh_landfallref05_Sum_ok (v0 : Value) (h : sh_landfallref05_Sum v0 R w) : Calls Tryz.prog 64 #[v0] w R :=
  calls_of_vc (c := Tryz.f64.body.getD .skip) (args := [v0]) [] [] follows_mixed Tryz.func64 rfl (of_decide_eq_true (by kernel_rfl)) (by kernel_rfl) (Eq.mp (by kernel_rfl) h)
def sh_digest_run (R : Ending → World → Prop) (w : World) : Prop := 
 letI X := Pan R
 letI D := DoV Tryz.prog
(D (Instr.alloc 26 true (.tuple #[])) w (fun t1 w1 =>
 DoU Tryz.prog (Instr.storeAt 26 t1 (Value.int IntKind.u64 14695981039346656037)) w1 (fun _ w2 =>
 D (Instr.makeFunc (Fn.func 116) #[] #[t1]) w2 (fun t3 w3 =>
 D (Instr.makeFunc (Fn.func 117) #[] #[t1]) w3 (fun t4 w4 =>
 R (.returned (Value.tuple #[t3, t4])) w4) X) X) X) X)
theorem sh_digest_run_ok (h : sh_digest_run  R w) : Calls Tryz.prog 81 #[] w R :=
  calls_of_vc (c := Tryz.f81.body.getD .skip) (args := []) [] [] follows_mixed Tryz.func81 rfl (of_decide_eq_true (by kernel_rfl)) (by kernel_rfl) (Eq.mp (by kernel_rfl) h)
def sh_landfallref05_Next (v0 v1 : Value) (R : Ending → World → Prop) (w : World) : Prop := 
 letI X := Pan R
 letI Q := CallF Tryz.prog
(Q 119 #[v0, v1] w (fun t1 w1 =>
 DoV Tryz.prog (convert 151 9 t1) w1 (fun t2 w2 =>
 Q 97 #[t2] w2 (fun t3 w3 =>
 R (.returned t3) w3) X) X) X)
theorem sh_landfallref05_Next_ok (v0 v1 : Value) (h : sh_landfallref05_Next v0 v1 R w) : Calls Tryz.prog 85 #[v0, v1] w R :=
  calls_of_vc (c := Tryz.f85.body.getD .skip) (args := [v0, v1]) [] [] follows_mixed Tryz.func85 rfl (of_decide_eq_true (by kernel_rfl)) (by kernel_rfl) (Eq.mp (by kernel_rfl) h)
def sh_sign_Member (v0 : Value) (R : Ending → World → Prop) (w : World) : Prop := 
 letI X := Pan R
 letI D := DoV Tryz.prog
 letI I := Value.int IntKind.i64
 letI T := Operand.tmp
 letI C := Operand.const
(D (binS BinOp.geq 3 (T 3) (C (I 1)) v0 (I 1)) w (fun t1 w1 =>
 Gd t1 true (D (binS BinOp.lss 3 (T 6) (C (I 2147483579)) v0 (I 2147483579)) w1 (fun t2 w2 =>
 Gd t2 true (CallF Tryz.prog 90 #[v0, (I 1073741789)] w2 (fun t3 w3 =>
 D (binS BinOp.eql 3 (T 11) (C (I 1)) t3 (I 1)) w3 (fun t4 w4 =>
 R (.returned t4) w4) X) X)
(R (.returned (Value.bool false)) w2)) X)
(R (.returned (Value.bool false)) w1)) X)
theorem sh_sign_Member_ok (v0 : Value) (h : sh_sign_Member v0 R w) : Calls Tryz.prog 88 #[v0] w R :=
  calls_of_vc (c := Tryz.f88.body.getD .skip) (args := [v0]) [] [] follows_mixed Tryz.func88 rfl (of_decide_eq_true (by kernel_rfl)) (by kernel_rfl) (Eq.mp (by kernel_rfl) h)
def sh_sign_within (v0 v1 : Value) (R : Ending → World → Prop) (w : World) : Prop := 
 letI I := Value.int IntKind.i64
 letI T := Operand.tmp
(DoV Tryz.prog (binS BinOp.leq 3 (T 5) (T 6) v1 v0) w (fun t1 w1 =>
 Gd t1 true (DoV Tryz.prog (binS BinOp.lss 3 (T 9) (Operand.const (I 1073741789)) v0 (I 1073741789)) w1 (fun t2 w2 =>
 R (.returned t2) w2) (Pan R))
(R (.returned (Value.bool false)) w1)) (Pan R))
theorem sh_sign_within_ok (v0 v1 : Value) (h : sh_sign_within v0 v1 R w) : Calls Tryz.prog 89 #[v0, v1] w R :=
  calls_of_vc (c := Tryz.f89.body.getD .skip) (args := [v0, v1]) [] [] follows_mixed Tryz.func89 rfl (of_decide_eq_true (by kernel_rfl)) (by kernel_rfl) (Eq.mp (by kernel_rfl) h)
def sh_sign_power (v0 v1 : Value) (R : Ending → World → Prop) (w : World) : Prop := 
 letI X := Pan R
 letI D := DoV Tryz.prog
 letI I := Value.int IntKind.i64
 letI T := Operand.tmp
 letI C := Operand.const
 letI L := Instr.loadAt
(D (Instr.box 3 v0) w (fun t1 w1 =>
 D (Instr.alloc 3 true (.tuple #[])) w1 (fun t2 w2 =>
 DoU Tryz.prog (Instr.storeAt 3 t2 (I 1)) w2 (fun _ w3 =>
 LoopE [1] [v1] w3 (fun h4 w4 K4 =>
 D (binS BinOp.gtr 3 (T 7) (C (I 0)) (h4 1) (I 0)) w4 (fun t5 w5 =>
 Br t5
(JoinE [] (fun K6 =>
 JoinE [] (fun K7 =>
 D (binS BinOp.rem 3 (T 11) (C (I 2)) (h4 1) (I 2)) w5 (fun t8 w8 =>
 D (binS BinOp.eql 3 (T 12) (C (I 1)) t8 (I 1)) w8 (fun t9 w9 =>
 Br t9
(D (L 3 t1) w9 (fun t10 w10 =>
 CallV Tryz.prog (Value.func (Fn.func 121) #[] #[]) #[t2, t10] w10 (fun _ w11 =>
 K7 [] w11) X) X)
(K7 [] w9)) X) X)
(fun _ w12 =>
 D (L 3 t1) w12 (fun t13 w13 =>
 CallV Tryz.prog (Value.func (Fn.func 121) #[] #[]) #[t1, t13] w13 (fun _ w14 =>
 K6 [] w14) X) X))
(fun _ w15 =>
 D (binS BinOp.quo 3 (T 9) (C (I 2)) (h4 1) (I 2)) w15 (fun t16 w16 =>
 K4 [t16] w16) X))
(D (L 3 t2) w5 (fun t17 w17 =>
 R (.returned t17) w17) X)) X)) X) X) X)
theorem sh_sign_power_ok (v0 v1 : Value) (h : sh_sign_power v0 v1 R w) : Calls Tryz.prog 90 #[v0, v1] w R :=
  calls_of_vc (c := Tryz.f90.body.getD .skip) (args := [v0, v1]) [] [1] follows_mixed Tryz.func90 rfl (of_decide_eq_true (by kernel_rfl)) (by kernel_rfl) (Eq.mp (by kernel_rfl) h)
def sh_sign_challenge (v0 v1 v2 : Value) (R : Ending → World → Prop) (w : World) : Prop := 
 letI X := Pan R
 letI D := DoV Tryz.prog
(D (Instr.buildSlice 91 2 #[(0, v0), (1, v1)]) w (fun t1 w1 =>
 CallB Tryz.prog Builtin.append #[91, 91] 91 #[false, false] #[t1, v2] w1 (fun t2 w2 =>
 CallF Tryz.prog 46 #[t2] w2 (fun t3 w3 =>
 D (binS BinOp.rem 26 (Operand.tmp 12) (Operand.const (Value.int IntKind.u64 1073741789)) t3 (Value.int IntKind.u64 1073741789)) w3 (fun t4 w4 =>
 D (convert 26 3 t4) w4 (fun t5 w5 =>
 R (.returned t5) w5) X) X) X) X) X)
theorem sh_sign_challenge_ok (v0 v1 v2 : Value) (h : sh_sign_challenge v0 v1 v2 R w) : Calls Tryz.prog 91 #[v0, v1, v2] w R :=
  calls_of_vc (c := Tryz.f91.body.getD .skip) (args := [v0, v1, v2]) [] [] follows_mixed Tryz.func91 rfl (of_decide_eq_true (by kernel_rfl)) (by kernel_rfl) (Eq.mp (by kernel_rfl) h)
def sh_sign_signature (v0 v1 v2 : Value) (R : Ending → World → Prop) (w : World) : Prop := 
 letI X := Pan R
 letI D := DoV Tryz.prog
 letI Q := CallF Tryz.prog
 letI I := Value.int IntKind.i64
 letI T := Operand.tmp
(D (Instr.alloc 28 true (.tuple #[])) w (fun t1 w1 =>
 Q 90 #[(I 4), v1] w1 (fun t2 w2 =>
 Q 90 #[(I 4), v0] w2 (fun t3 w3 =>
 Q 91 #[t2, t3, v2] w3 (fun t4 w4 =>
 D (binS BinOp.mul 3 (T 16) (T 17) t4 v0) w4 (fun t5 w5 =>
 D (binS BinOp.add 3 (T 15) (T 18) v1 t5) w5 (fun t6 w6 =>
 D (binS BinOp.rem 3 (T 19) (Operand.const (I 1073741789)) t6 (I 1073741789)) w6 (fun t7 w7 =>
 D (Instr.build 28 #[(0, t4), (1, t7)]) w7 (fun t8 w8 =>
 DoU Tryz.prog (Instr.storeAt 28 t1 t8) w8 (fun _ w9 =>
 Res Tryz.prog [.cell t1 28] w9 R) X) X) X) X) X) X) X) X) X)
theorem sh_sign_signature_ok (v0 v1 v2 : Value) (h : sh_sign_signature v0 v1 v2 R w) : Calls Tryz.prog 96 #[v0, v1, v2] w R :=
  calls_of_vc (c := Tryz.f96.body.getD .skip) (args := [v0, v1, v2]) [] [] follows_mixed Tryz.func96 rfl (of_decide_eq_true (by kernel_rfl)) (by kernel_rfl) (Eq.mp (by kernel_rfl) h)
def sh_landfallref05_Text (v0 : Value) (R : Ending → World → Prop) (w : World) : Prop := 
 letI X := Pan R
 letI D := DoV Tryz.prog
 letI I := Value.int IntKind.i64
 letI T := Operand.tmp
(LoopE [3, 4] [(Value.int IntKind.u64 14695981039346656037), (I 0)] w (fun h1 w1 K1 =>
 CallB Tryz.prog Builtin.len #[9] 3 #[false] #[v0] w1 (fun t2 w2 =>
 D (binS BinOp.lss 3 (T 5) (T 7) (h1 4) t2) w2 (fun t3 w3 =>
 Br t3
(D (Instr.index 9 v0 (h1 4)) w3 (fun t4 w4 =>
 D (convert 5 26 t4) w4 (fun t5 w5 =>
 D (binS BinOp.xor 26 (T 11) (T 15) (h1 3) t5) w5 (fun t6 w6 =>
 D (binS BinOp.mul 26 (T 16) (Operand.const (Value.int IntKind.u64 1099511628211)) t6 (Value.int IntKind.u64 1099511628211)) w6 (fun t7 w7 =>
 D (binS BinOp.add 3 (T 9) (Operand.const (I 1)) (h1 4) (I 1)) w7 (fun t8 w8 =>
 K1 [t7, t8] w8) X) X) X) X) X)
(R (.returned (h1 3)) w3)) X) X))
theorem sh_landfallref05_Text_ok (v0 : Value) (h : sh_landfallref05_Text v0 R w) : Calls Tryz.prog 97 #[v0] w R :=
  calls_of_vc (c := Tryz.f97.body.getD .skip) (args := [v0]) [] [3, 4] follows_mixed Tryz.func97 rfl (of_decide_eq_true (by kernel_rfl)) (by kernel_rfl) (Eq.mp (by kernel_rfl) h)
def sh_digest_run_1 (v0 v1 : Value) (R : Ending → World → Prop) (w : World) : Prop := 
 letI X := Pan R
 letI D := DoV Tryz.prog
 letI I := Value.int IntKind.i64
 letI T := Operand.tmp
(CallB Tryz.prog Builtin.len #[151] 3 #[false] #[v0] w (fun t1 w1 =>
 LoopE [7] [(I 0)] w1 (fun h2 w2 K2 =>
 D (binS BinOp.lss 3 (T 7) (T 6) (h2 7) t1) w2 (fun t3 w3 =>
 Br t3
(D (Instr.indexAt 151 v0 (h2 7)) w3 (fun t4 w4 =>
 D (Instr.loadAt 5 t4) w4 (fun t5 w5 =>
 D (Instr.loadAt 26 v1) w5 (fun t6 w6 =>
 D (convert 5 26 t5) w6 (fun t7 w7 =>
 D (binS BinOp.xor 26 (T 11) (T 13) t6 t7) w7 (fun t8 w8 =>
 D (binS BinOp.mul 26 (T 14) (Operand.const (Value.int IntKind.u64 1099511628211)) t8 (Value.int IntKind.u64 1099511628211)) w8 (fun t9 w9 =>
 DoU Tryz.prog (Instr.storeAt 26 v1 t9) w9 (fun _ w10 =>
 D (binS BinOp.add 3 (T 7) (Operand.const (I 1)) (h2 7) (I 1)) w10 (fun t11 w11 =>
 K2 [t11] w11) X) X) X) X) X) X) X) X)
(R (.returned (Value.tuple #[])) w3)) X)) X)
theorem sh_digest_run_1_ok (v0 v1 : Value) (h : sh_digest_run_1 v0 v1 R w) : Calls Tryz.prog 116 #[v0, v1] w R :=
  calls_of_vc (c := Tryz.f116.body.getD .skip) (args := [v0, v1]) [] [7] follows_mixed Tryz.func116 rfl (of_decide_eq_true (by kernel_rfl)) (by kernel_rfl) (Eq.mp (by kernel_rfl) h)
def sh_digest_run_2 (v0 : Value) (R : Ending → World → Prop) (w : World) : Prop := 
(DoV Tryz.prog (Instr.loadAt 26 v0) w (fun t1 w1 =>
 R (.returned t1) w1) (Pan R))
theorem sh_digest_run_2_ok (v0 : Value) (h : sh_digest_run_2 v0 R w) : Calls Tryz.prog 117 #[v0] w R :=
  calls_of_vc (c := Tryz.f117.body.getD .skip) (args := [v0]) [] [] follows_mixed Tryz.func117 rfl (of_decide_eq_true (by kernel_rfl)) (by kernel_rfl) (Eq.mp (by kernel_rfl) h)
def sh_landfallref05_Bytes (v0 v1 : Value) (R : Ending → World → Prop) (w : World) : Prop := 
 letI X := Pan R
 letI D := DoV Tryz.prog
 letI B := CallB Tryz.prog
 letI I := Value.int IntKind.i64
 letI T := Operand.tmp
 letI C := Operand.const
(LoopE [5, 6] [(Value.slice none 0 0), (I 0)] w (fun h1 w1 K1 =>
 D (binS BinOp.lss 3 (T 8) (C (I 8)) (h1 6) (I 8)) w1 (fun t2 w2 =>
 Br t2
(D (binS BinOp.mul 3 (C (I 8)) (T 14) (I 8) (h1 6)) w2 (fun t3 w3 =>
 D (binS BinOp.sub 3 (C (I 56)) (T 15) (I 56) t3) w3 (fun t4 w4 =>
 D (binS BinOp.shr 26 (T 13) (T 16) v0 t4) w4 (fun t5 w5 =>
 D (convert 26 5 t5) w5 (fun t6 w6 =>
 D (Instr.buildSlice 151 1 #[(0, t6)]) w6 (fun t7 w7 =>
 B Builtin.append #[151, 151] 151 #[false, false] #[(h1 5), t7] w7 (fun t8 w8 =>
 D (binS BinOp.add 3 (T 10) (C (I 1)) (h1 6) (I 1)) w8 (fun t9 w9 =>
 K1 [t8, t9] w9) X) X) X) X) X) X) X)
(LoopE [5, 7] [(h1 5), (I 0)] w2 (fun h10 w10 K10 =>
 B Builtin.len #[91] 3 #[false] #[v1] w10 (fun t11 w11 =>
 D (binS BinOp.lss 3 (T 21) (T 23) (h10 7) t11) w11 (fun t12 w12 =>
 Br t12
(D (Instr.indexAt 91 v1 (h10 7)) w12 (fun t13 w13 =>
 D (Instr.loadAt 3 t13) w13 (fun t14 w14 =>
 CallF Tryz.prog 134 #[t14] w14 (fun t15 w15 =>
 B Builtin.append #[151, 9] 151 #[false, false] #[(h10 5), t15] w15 (fun t16 w16 =>
 D (Instr.buildSlice 151 1 #[(0, (Value.int IntKind.u8 32))]) w16 (fun t17 w17 =>
 B Builtin.append #[151, 151] 151 #[false, false] #[t16, t17] w17 (fun t18 w18 =>
 D (binS BinOp.add 3 (T 25) (C (I 1)) (h10 7) (I 1)) w18 (fun t19 w19 =>
 K10 [t18, t19] w19) X) X) X) X) X) X) X)
(R (.returned (h10 5)) w12)) X) X))) X))
theorem sh_landfallref05_Bytes_ok (v0 v1 : Value) (h : sh_landfallref05_Bytes v0 v1 R w) : Calls Tryz.prog 119 #[v0, v1] w R :=
  calls_of_vc (c := Tryz.f119.body.getD .skip) (args := [v0, v1]) [] [5, 6, 7] follows_mixed Tryz.func119 rfl (of_decide_eq_true (by kernel_rfl)) (by kernel_rfl) (Eq.mp (by kernel_rfl) h)
def sh_sign_power_1 (v0 v1 : Value) (R : Ending → World → Prop) (w : World) : Prop := 
 letI X := Pan R
 letI D := DoV Tryz.prog
 letI I := Value.int IntKind.i64
 letI T := Operand.tmp
(NilC Tryz.prog v0 w (fun t1 w1 =>
 D (Instr.loadAt 3 t1) w1 (fun t2 w2 =>
 D (binS BinOp.mul 3 (T 7) (T 8) t2 v1) w2 (fun t3 w3 =>
 D (binS BinOp.rem 3 (T 9) (Operand.const (I 2147483579)) t3 (I 2147483579)) w3 (fun t4 w4 =>
 NilC Tryz.prog v0 w4 (fun t5 w5 =>
 DoU Tryz.prog (Instr.storeAt 3 t5 t4) w5 (fun _ w6 =>
 R (.returned (Value.tuple #[])) w6) X) X) X) X) X) X)
theorem sh_sign_power_1_ok (v0 v1 : Value) (h : sh_sign_power_1 v0 v1 R w) : Calls Tryz.prog 121 #[v0, v1] w R :=
  calls_of_vc (c := Tryz.f121.body.getD .skip) (args := [v0, v1]) [] [] follows_mixed Tryz.func121 rfl (of_decide_eq_true (by kernel_rfl)) (by kernel_rfl) (Eq.mp (by kernel_rfl) h)
def sh_landfallref05_Decimal (v0 : Value) (R : Ending → World → Prop) (w : World) : Prop := 
 letI X := Pan R
 letI D := DoV Tryz.prog
 letI B := CallB Tryz.prog
 letI I := Value.int IntKind.i64
 letI T := Operand.tmp
 letI C := Operand.const
(D (binS BinOp.eql 3 (T 8) (C (I 0)) v0 (I 0)) w (fun t1 w1 =>
 Br t1
(R (.returned (Value.string { data := #[48] })) w1)
(LoopE [3, 4, 5] [(Value.slice none 0 0), v0, undef] w1 (fun h2 w2 K2 =>
 D (binS BinOp.neq 3 (T 11) (C (I 0)) (h2 4) (I 0)) w2 (fun t3 w3 =>
 Br t3
(JoinE [3, 5] (fun K4 =>
 D (binS BinOp.rem 3 (T 15) (C (I 10)) (h2 4) (I 10)) w3 (fun t5 w5 =>
 JoinE [5] (fun K6 =>
 D (binS BinOp.lss 3 (T 17) (C (I 0)) t5 (I 0)) w5 (fun t7 w7 =>
 Br t7
(D (Op.unary UnOp.neg t5) w7 (fun t8 w8 =>
 K6 [t8] w8) X)
(K6 [t5] w7)) X)
(fun h9 w9 =>
 D (binS BinOp.add 3 (C (I 48)) (T 22) (I 48) (h9 5)) w9 (fun t10 w10 =>
 D (convert 3 5 t10) w10 (fun t11 w11 =>
 D (Instr.buildSlice 151 1 #[(0, t11)]) w11 (fun t12 w12 =>
 B Builtin.append #[151, 151] 151 #[false, false] #[(h2 3), t12] w12 (fun t13 w13 =>
 K4 [t13, (h9 5)] w13) X) X) X) X)) X)
(fun h14 w14 =>
 D (binS BinOp.quo 3 (T 13) (C (I 10)) (h2 4) (I 10)) w14 (fun t15 w15 =>
 K2 [(h14 3), t15, (h14 5)] w15) X))
(JoinE [3] (fun K16 =>
 D (binS BinOp.lss 3 (T 27) (C (I 0)) v0 (I 0)) w3 (fun t17 w17 =>
 Br t17
(D (Instr.buildSlice 151 1 #[(0, (Value.int IntKind.u8 45))]) w17 (fun t18 w18 =>
 B Builtin.append #[151, 151] 151 #[false, false] #[(h2 3), t18] w18 (fun t19 w19 =>
 K16 [t19] w19) X) X)
(K16 [(h2 3)] w17)) X)
(fun h20 w20 =>
 B Builtin.len #[151] 3 #[false] #[(h20 3)] w20 (fun t21 w21 =>
 D (binS BinOp.sub 3 (T 33) (C (I 1)) t21 (I 1)) w21 (fun t22 w22 =>
 LoopE [6, 7] [(Value.slice none 0 0), t22] w22 (fun h23 w23 K23 =>
 D (binS BinOp.geq 3 (T 35) (C (I 0)) (h23 7) (I 0)) w23 (fun t24 w24 =>
 Br t24
(D (Instr.indexAt 151 (h20 3) (h23 7)) w24 (fun t25 w25 =>
 D (Instr.loadAt 5 t25) w25 (fun t26 w26 =>
 D (Instr.buildSlice 151 1 #[(0, t26)]) w26 (fun t27 w27 =>
 B Builtin.append #[151, 151] 151 #[false, false] #[(h23 6), t27] w27 (fun t28 w28 =>
 D (binS BinOp.sub 3 (T 37) (C (I 1)) (h23 7) (I 1)) w28 (fun t29 w29 =>
 K23 [t28, t29] w29) X) X) X) X) X)
(D (convert 151 9 (h23 6)) w24 (fun t30 w30 =>
 R (.returned t30) w30) X)) X)) X) X))) X))) X)
theorem sh_landfallref05_Decimal_ok (v0 : Value) (h : sh_landfallref05_Decimal v0 R w) : Calls Tryz.prog 134 #[v0] w R :=
  calls_of_vc (c := Tryz.f134.body.getD .skip) (args := [v0]) [] [3, 4, 5, 6, 7] follows_mixed Tryz.func134 rfl (of_decide_eq_true (by kernel_rfl)) (by kernel_rfl) (Eq.mp (by kernel_rfl) h)
end Go.Proofs.YtohmledhhgdgaaaGreatDoor
