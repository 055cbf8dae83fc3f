/- The chains of operations of some functions of the program. -/
import Derived.Test.YtdfpdfahcbflpabDoorHBaseA
import Derived.Test.YtdfpdfahcbflpabDoorProg
import Derived.KernelRfl
set_option linter.unusedVariables false
set_option linter.unusedSimpArgs false
namespace Go.Proofs.YtdfpdfahcbflpabDoor
open Sh
variable {R : Ending → World → Prop} {w : World}
set_option maxRecDepth 100000
theorem follows_mixed : Tryd.prog.follows .mixedOrders = true := by kernel_rfl
def sh_digest_Sum (v0 : Value) (R : Ending → World → Prop) (w : World) : Prop := 
(CallF Tryd.prog 47 #[(Value.int IntKind.u64 14695981039346656037), v0] w (fun t1 w1 =>
 R (.returned t1) w1) (Pan R))
theorem sh_digest_Sum_ok (v0 : Value) (h : sh_digest_Sum v0 R w) : Calls Tryd.prog 32 #[v0] w R :=
  calls_of_vc (c := Tryd.f32.body.getD .skip) (args := [v0]) [] [] follows_mixed Tryd.func32 rfl (of_decide_eq_true (by kernel_rfl)) (by kernel_rfl) (Eq.mp (by kernel_rfl) h)
def sh_digest_Next (v0 v1 : Value) (R : Ending → World → Prop) (w : World) : Prop := 
 letI X := Pan R
 letI D := DoV Tryd.prog
 letI Q := CallF Tryd.prog
 letI I := Value.int IntKind.i64
 letI T := Operand.tmp
 letI C := Operand.const
 letI E := Instr.extract
(Q 57 #[] w (fun t1 w1 =>
 D (E t1 0) w1 (fun t2 w2 =>
 D (E t1 1) w2 (fun t3 w3 =>
 LoopE [7] [(I 56)] w3 (fun h4 w4 K4 =>
 D (binS BinOp.geq 3 (T 16) (C (I 0)) (h4 7) (I 0)) w4 (fun t5 w5 =>
 Br t5
(D (binS BinOp.shr 47 (T 21) (T 22) v0 (h4 7)) w5 (fun t6 w6 =>
 D (convert 47 5 t6) w6 (fun t7 w7 =>
 D (Instr.buildSlice 104 1 #[(0, t7)]) w7 (fun t8 w8 =>
 CallV Tryd.prog t2 #[t8] w8 (fun _ w9 =>
 D (binS BinOp.sub 3 (T 18) (C (I 8)) (h4 7) (I 8)) w9 (fun t10 w10 =>
 K4 [t10] w10) X) X) X) X) X)
(CallB Tryd.prog Builtin.len #[45] 3 #[false] #[v1] w5 (fun t11 w11 =>
 LoopE [29] [(I 0)] w11 (fun h12 w12 K12 =>
 D (binS BinOp.lss 3 (T 29) (T 28) (h12 29) t11) w12 (fun t13 w13 =>
 Br t13
(D (Instr.indexAt 45 v1 (h12 29)) w13 (fun t14 w14 =>
 D (Instr.loadAt 3 t14) w14 (fun t15 w15 =>
 Q 58 #[t15] w15 (fun t16 w16 =>
 D (Instr.range 9 t16) w16 (fun t17 w17 =>
 LoopE [] [] w17 (fun h18 w18 K18 =>
 D (Instr.next t17 true 0) w18 (fun t19 w19 =>
 D (E t19 0) w19 (fun t20 w20 =>
 Br t20
(D (E t19 2) w20 (fun t21 w21 =>
 D (convert 21 5 t21) w21 (fun t22 w22 =>
 D (Instr.buildSlice 104 1 #[(0, t22)]) w22 (fun t23 w23 =>
 CallV Tryd.prog t2 #[t23] w23 (fun _ w24 =>
 K18 [] w24) X) X) X) X)
(D (Instr.buildSlice 104 1 #[(0, (Value.int IntKind.u8 32))]) w20 (fun t25 w25 =>
 CallV Tryd.prog t2 #[t25] w25 (fun _ w26 =>
 D (binS BinOp.add 3 (T 29) (C (I 1)) (h12 29) (I 1)) w26 (fun t27 w27 =>
 K12 [t27] w27) X) X) X)) X) X)) X) X) X) X)
(CallV Tryd.prog t3 #[] w13 (fun t28 w28 =>
 R (.returned t28) w28) X)) X)) X)) X)) X) X) X)
theorem sh_digest_Next_ok (v0 v1 : Value) (h : sh_digest_Next v0 v1 R w) : Calls Tryd.prog 47 #[v0, v1] w R :=
  calls_of_vc (c := Tryd.f47.body.getD .skip) (args := [v0, v1]) [] [7, 29] follows_mixed Tryd.func47 rfl (of_decide_eq_true (by kernel_rfl)) (by kernel_rfl) (Eq.mp (by kernel_rfl) h)
def sh_digest_run (R : Ending → World → Prop) (w : World) : Prop := 
 letI X := Pan R
 letI D := DoV Tryd.prog
(D (Instr.alloc 47 true (.tuple #[])) w (fun t1 w1 =>
 DoU Tryd.prog (Instr.storeAt 47 t1 (Value.int IntKind.u64 14695981039346656037)) w1 (fun _ w2 =>
 D (Instr.makeFunc (Fn.func 63) #[] #[t1]) w2 (fun t3 w3 =>
 D (Instr.makeFunc (Fn.func 64) #[] #[t1]) w3 (fun t4 w4 =>
 R (.returned (Value.tuple #[t3, t4])) w4) X) X) X) X)
theorem sh_digest_run_ok (h : sh_digest_run  R w) : Calls Tryd.prog 57 #[] w R :=
  calls_of_vc (c := Tryd.f57.body.getD .skip) (args := []) [] [] follows_mixed Tryd.func57 rfl (of_decide_eq_true (by kernel_rfl)) (by kernel_rfl) (Eq.mp (by kernel_rfl) h)
def sh_digest_run_1 (v0 v1 : Value) (R : Ending → World → Prop) (w : World) : Prop := 
 letI X := Pan R
 letI D := DoV Tryd.prog
 letI I := Value.int IntKind.i64
 letI T := Operand.tmp
(CallB Tryd.prog Builtin.len #[104] 3 #[false] #[v0] w (fun t1 w1 =>
 LoopE [7] [(I 0)] w1 (fun h2 w2 K2 =>
 D (binS BinOp.lss 3 (T 7) (T 6) (h2 7) t1) w2 (fun t3 w3 =>
 Br t3
(D (Instr.indexAt 104 v0 (h2 7)) w3 (fun t4 w4 =>
 D (Instr.loadAt 5 t4) w4 (fun t5 w5 =>
 D (Instr.loadAt 47 v1) w5 (fun t6 w6 =>
 D (convert 5 47 t5) w6 (fun t7 w7 =>
 D (binS BinOp.xor 47 (T 11) (T 13) t6 t7) w7 (fun t8 w8 =>
 D (binS BinOp.mul 47 (T 14) (Operand.const (Value.int IntKind.u64 1099511628211)) t8 (Value.int IntKind.u64 1099511628211)) w8 (fun t9 w9 =>
 DoU Tryd.prog (Instr.storeAt 47 v1 t9) w9 (fun _ w10 =>
 D (binS BinOp.add 3 (T 7) (Operand.const (I 1)) (h2 7) (I 1)) w10 (fun t11 w11 =>
 K2 [t11] w11) X) X) X) X) X) X) X) X)
(R (.returned (Value.tuple #[])) w3)) X)) X)
theorem sh_digest_run_1_ok (v0 v1 : Value) (h : sh_digest_run_1 v0 v1 R w) : Calls Tryd.prog 63 #[v0, v1] w R :=
  calls_of_vc (c := Tryd.f63.body.getD .skip) (args := [v0, v1]) [] [7] follows_mixed Tryd.func63 rfl (of_decide_eq_true (by kernel_rfl)) (by kernel_rfl) (Eq.mp (by kernel_rfl) h)
def sh_digest_run_2 (v0 : Value) (R : Ending → World → Prop) (w : World) : Prop := 
(DoV Tryd.prog (Instr.loadAt 47 v0) w (fun t1 w1 =>
 R (.returned t1) w1) (Pan R))
theorem sh_digest_run_2_ok (v0 : Value) (h : sh_digest_run_2 v0 R w) : Calls Tryd.prog 64 #[v0] w R :=
  calls_of_vc (c := Tryd.f64.body.getD .skip) (args := [v0]) [] [] follows_mixed Tryd.func64 rfl (of_decide_eq_true (by kernel_rfl)) (by kernel_rfl) (Eq.mp (by kernel_rfl) h)
end Go.Proofs.YtdfpdfahcbflpabDoor
