/- The chains of operations of some functions of the program. -/
import Derived.Test.YtohmledhhgdgaaaGreatDoorGT1
import Derived.Test.YtohmledhhgdgaaaGreatDoorGBaseA
import Derived.Test.YtohmledhhgdgaaaGreatDoorProg
import Derived.KernelRfl
set_option linter.unusedVariables false
set_option linter.unusedSimpArgs false
namespace Go.Proofs.YtohmledhhgdgaaaGreatDoor
open Sh
variable {R : Ending → World → Prop} {w : World}
set_option maxRecDepth 100000
def sh_landfallref24_SameEntries (v0 v1 : Value) (R : Ending → World → Prop) (w : World) : Prop := 
 letI X := Pan R
 letI D := DoV Tryz.prog
 letI B := CallB Tryz.prog
 letI I := Value.int IntKind.i64
 letI T := Operand.tmp
 letI V := Value.bool
(B Builtin.len #[25] 3 #[false] #[v0] w (fun t1 w1 =>
 B Builtin.len #[25] 3 #[false] #[v1] w1 (fun t2 w2 =>
 D (binS BinOp.neq 3 (T 7) (T 9) t1 t2) w2 (fun t3 w3 =>
 Br t3
(R (.returned (V false)) w3)
(LoopE [5] [(I 0)] w3 (fun h4 w4 K4 =>
 B Builtin.len #[25] 3 #[false] #[v0] w4 (fun t5 w5 =>
 D (binS BinOp.lss 3 (T 11) (T 13) (h4 5) t5) w5 (fun t6 w6 =>
 Br t6
(DrawE w6 (fun Rs7 Rb7 w7 =>
 DetOp Rb7 Rs7 w7 (fun w8 K8 => D (Instr.indexAt 25 v0 (h4 5)) w8 K8 X) (fun c19_8 ψ8 =>
 DetOp Rb7 Rs7 w7 (fun w9 K9 => D (Instr.loadAt 89 c19_8) w9 K9 X) (fun c20_9 ψ9 =>
 DetOp Rb7 Rs7 w7 (fun w10 K10 => D (Instr.indexAt 25 v1 (h4 5)) w10 K10 X) (fun c23_10 ψ10 =>
 DetOp Rb7 Rs7 w7 (fun w11 K11 => D (Instr.loadAt 89 c23_10) w11 K11 X) (fun c24_11 ψ11 =>
 ∀ w12, Rb7 w7 w12 → ((((True ∧ ψ8 w12) ∧ ψ9 w12) ∧ ψ10 w12) ∧ ψ11 w12) →
 D (binS BinOp.neq 89 (T 20) (T 24) c20_9 c24_11) w12 (fun t13 w13 =>
 Br t13
(R (.returned (V false)) w13)
(D (binS BinOp.add 3 (T 15) (Operand.const (I 1)) (h4 5) (I 1)) w13 (fun t14 w14 =>
 K4 [t14] w14) X)) X))))))
(R (.returned (V true)) w6)) X) X))) X) X) X)
theorem sh_landfallref24_SameEntries_ok (v0 v1 : Value) (h : sh_landfallref24_SameEntries v0 v1 R w) : Calls Tryz.prog 20 #[v0, v1] w R :=
  calls_of_vc (c := Tryz.f20.body.getD .skip) (args := [v0, v1]) [(6, 8, false, 0)] [5] follows_mixed Tryz.func20 rfl (of_decide_eq_true (by kernel_rfl)) (by kernel_rfl) (Eq.mp (by kernel_rfl) h)
def sh_report_Check (v0 v1 : Value) (R : Ending → World → Prop) (w : World) : Prop := 
 letI X := Pan R
 letI D := DoV Tryz.prog
 letI Q := CallF Tryz.prog
 letI I := Value.int IntKind.i64
 letI T := Operand.tmp
 letI L := Instr.loadAt
 letI F := Instr.fieldAt
 letI V := Value.bool
(D (Instr.box 30 v0) w (fun t1 w1 =>
 D (F 30 t1 2) w1 (fun t2 w2 =>
 D (L 25 t2) w2 (fun t3 w3 =>
 JoinE [] (fun K4 =>
 JoinE [26] (fun K5 =>
 D (F 30 t1 0) w3 (fun t6 w6 =>
 D (L 3 t6) w6 (fun t7 w7 =>
 Q 52 #[t7] w7 (fun t8 w8 =>
 D (Op.unary UnOp.not t8) w8 (fun t9 w9 =>
 Gd t9 false (CallB Tryz.prog Builtin.len #[95] 3 #[false] #[t3] w9 (fun t10 w10 =>
 D (binS BinOp.eql 3 (T 17) (Operand.const (I 0)) t10 (I 0)) w10 (fun t11 w11 =>
 Gd t11 false (D (F 30 t1 1) w11 (fun t12 w12 =>
 D (L 3 t12) w12 (fun t13 w13 =>
 Q 53 #[t3, t13] w13 (fun t14 w14 =>
 D (Op.unary UnOp.not t14) w14 (fun t15 w15 =>
 K5 [t15] w15) X) X) X) X)
(K5 [(V true)] w11)) X) X)
(K5 [(V true)] w9)) X) X) X) X)
(fun h16 w16 =>
 Br (h16 26)
(R (.returned (Value.tuple #[(V false), (I 1)])) w16)
(K4 [] w16)))
(fun _ w17 =>
 DrawR w17 (fun R18 S18 w18 =>
 DetOp R18 (Both R18 S18) w18 (fun w19 K19 => D (F 30 t1 5) w19 K19 X) (fun c29_19 ψ19 =>
 DetOp R18 (Both R18 S18) w18 (fun w20 K20 => D (L 28 c29_19) w20 K20 X) (fun c30_20 ψ20 =>
 DetOp R18 (Both R18 S18) w18 (fun w21 K21 => D (L 30 t1) w21 K21 X) (fun c31_21 ψ21 =>
 ThrE R18 S18 0 w18 (fun Θ18_0 T18_0 =>
 NdC R18 S18 0 w18 Θ18_0 (fun w22 K22 => Q 55 #[c31_21] w22 K22 X) (fun v32_22 φ22 =>
 NdC R18 S18 0 w18 φ22 (fun w23 K23 => Q 54 #[v1, c30_20, v32_22] w23 K23 X) (fun v33_23 φ23 =>
 NdC R18 S18 0 w18 φ23 (fun w24 K24 => K24 v33_23 w24) (fun v27_24 φ24 =>
 NdC R18 S18 0 w18 φ24 (fun w25 K25 => D (Instr.extract v27_24 0) w25 K25 X) (fun v34_25 φ25 =>
 NdC R18 S18 0 w18 φ25 (fun w26 K26 => D (Instr.extract v27_24 1) w26 K26 X) (fun v35_26 φ26 =>
 NdC R18 S18 0 w18 φ26 (fun w27 K27 => K27 v34_25 w27) (fun v7_27 φ27 =>
 T18_0 [v32_22, v33_23, v27_24, v34_25, v35_26, v7_27] φ27))))))) (fun Φ18_0 =>
 ∀ (h28 : Nat → Value) (w29 : World), R18 w18 w29 → (((True ∧ ψ19 w29) ∧ ψ20 w29) ∧ ψ21 w29) ∧ (True ∧ Φ18_0 [(h28 32), (h28 33), (h28 27), (h28 34), (h28 35), (h28 7)] w29) →
 DrawE w29 (fun Rs30 Rb30 w30 =>
 Gd (h28 7) true (DetOp Rb30 Rs30 w30 (fun w31 K31 => D (F 30 t1 3) w31 K31 X) (fun c39_31 ψ31 =>
 DetOp Rb30 Rs30 w30 (fun w32 K32 => D (L 26 c39_31) w32 K32 X) (fun c40_32 ψ32 =>
 DetOp Rs30 Rb30 w30 (fun w33 K33 => Q 56 #[t3, c40_32] w33 K33 X) (fun c41_33 ψ33 =>
 DetOp Rb30 Rs30 w30 (fun w34 K34 => D (F 30 t1 4) w34 K34 X) (fun c42_34 ψ34 =>
 DetOp Rb30 Rs30 w30 (fun w35 K35 => D (L 26 c42_34) w35 K35 X) (fun c43_35 ψ35 =>
 DetOp Rb30 Rs30 w30 (fun w36 K36 => D (binS BinOp.eql 26 (T 41) (T 43) c41_33 c43_35) w36 K36 X) (fun c44_36 ψ36 =>
 ∀ w37, Rb30 w30 w37 → ((((((True ∧ ψ31 w37) ∧ ψ32 w37) ∧ ψ33 w37) ∧ ψ34 w37) ∧ ψ35 w37) ∧ ψ36 w37) →
 R (.returned (Value.tuple #[c44_36, (h28 35)])) w37)))))))
(∀ w38, Rb30 w30 w38 → True →
 R (.returned (Value.tuple #[(V false), (h28 35)])) w38))))))))) X) X) X)
theorem sh_report_Check_ok (v0 v1 : Value) (h : sh_report_Check v0 v1 R w) : Calls Tryz.prog 21 #[v0, v1] w R :=
  calls_of_vc (c := Tryz.f21.body.getD .skip) (args := [v0, v1]) [(4, 10, false, 153392104), (5, 12, false, 6)] [] follows_mixed Tryz.func21 rfl (of_decide_eq_true (by kernel_rfl)) (by kernel_rfl) (Eq.mp (by kernel_rfl) h)
def sh_report_Chain (v0 v1 : Value) (R : Ending → World → Prop) (w : World) : Prop := 
 letI X := Pan R
 letI D := DoV Tryz.prog
 letI Q := CallF Tryz.prog
 letI I := Value.int IntKind.i64
 letI T := Operand.tmp
 letI L := Instr.loadAt
 letI F := Instr.fieldAt
(D (Instr.box 52 v0) w (fun t1 w1 =>
 JoinE [] (fun K2 =>
 JoinE [19] (fun K3 =>
 D (L 52 t1) w1 (fun t4 w4 =>
 Q 60 #[t4] w4 (fun t5 w5 =>
 D (Op.unary UnOp.not t5) w5 (fun t6 w6 =>
 Gd t6 false (D (binS BinOp.lss 3 (T 10) (Operand.const (I 0)) v1 (I 0)) w6 (fun t7 w7 =>
 Gd t7 false (D (F 52 t1 2) w7 (fun t8 w8 =>
 D (L 25 t8) w8 (fun t9 w9 =>
 CallB Tryz.prog Builtin.len #[25] 3 #[false] #[t9] w9 (fun t10 w10 =>
 D (binS BinOp.gtr 3 (T 14) (T 17) v1 t10) w10 (fun t11 w11 =>
 K3 [t11] w11) X) X) X) X)
(K3 [(Value.bool true)] w7)) X)
(K3 [(Value.bool true)] w6)) X) X) X)
(fun h12 w12 =>
 Br (h12 19)
(R (.returned (Value.tuple #[(Value.int IntKind.u64 0), (I 1)])) w12)
(K2 [] w12)))
(fun _ w13 =>
 DrawR w13 (fun R14 S14 w14 =>
 DetOp R14 (Both R14 S14) w14 (fun w15 K15 => D (F 52 t1 2) w15 K15 X) (fun c20_15 ψ15 =>
 DetOp R14 (Both R14 S14) w14 (fun w16 K16 => D (L 25 c20_15) w16 K16 X) (fun c21_16 ψ16 =>
 DetOp R14 (Both R14 S14) w14 (fun w17 K17 => D (Instr.sliceAt 25 c21_16 none (some v1) none) w17 K17 X) (fun c23_17 ψ17 =>
 DetOp R14 (Both R14 S14) w14 (fun w18 K18 => D (F 52 t1 0) w18 K18 X) (fun c24_18 ψ18 =>
 DetOp R14 (Both R14 S14) w14 (fun w19 K19 => D (L 3 c24_18) w19 K19 X) (fun c25_19 ψ19 =>
 ThrE R14 S14 0 w14 (fun Θ14_0 T14_0 =>
 NdC R14 S14 0 w14 Θ14_0 (fun w20 K20 => D (Instr.buildSlice 91 1 #[(0, c25_19)]) w20 K20 X) (fun v26_20 φ20 =>
 NdC R14 S14 0 w14 φ20 (fun w21 K21 => Q 46 #[v26_20] w21 K21 X) (fun v27_21 φ21 =>
 T14_0 [v26_20, v27_21] φ21))) (fun Φ14_0 =>
 ∀ (h22 : Nat → Value) (w23 : World), R14 w14 w23 → (((((True ∧ ψ15 w23) ∧ ψ16 w23) ∧ ψ17 w23) ∧ ψ18 w23) ∧ ψ19 w23) ∧ (True ∧ Φ14_0 [(h22 26), (h22 27)] w23) →
 Q 56 #[c23_17, (h22 27)] w23 (fun t24 w24 =>
 R (.returned (Value.tuple #[t24, (I 0)])) w24) X))))))))) X)
theorem sh_report_Chain_ok (v0 v1 : Value) (h : sh_report_Chain v0 v1 R w) : Calls Tryz.prog 26 #[v0, v1] w R :=
  calls_of_vc (c := Tryz.f26.body.getD .skip) (args := [v0, v1]) [(3, 8, false, 2360296)] [] follows_mixed Tryz.func26 rfl (of_decide_eq_true (by kernel_rfl)) (by kernel_rfl) (Eq.mp (by kernel_rfl) h)
def sh_landfallref24_Follow (v0 v1 : Value) (R : Ending → World → Prop) (w : World) : Prop := 
 letI X := Pan R
 letI D := DoV Tryz.prog
 letI B := CallB Tryz.prog
 letI I := Value.int IntKind.i64
 letI T := Operand.tmp
 letI C := Operand.const
 letI L := Instr.loadAt
 letI F := Instr.fieldAt
 letI A := Instr.indexAt
 letI V := Value.bool
(LoopE [5] [(I 0)] w (fun h1 w1 K1 =>
 B Builtin.len #[25] 3 #[false] #[v0] w1 (fun t2 w2 =>
 D (binS BinOp.lss 3 (T 6) (T 8) (h1 5) t2) w2 (fun t3 w3 =>
 Br t3
(JoinE [] (fun K4 =>
 JoinE [46] (fun K5 =>
 DrawE w3 (fun Rs6 Rb6 w6 =>
 DetOp Rb6 Rs6 w6 (fun w7 K7 => D (A 25 v0 (h1 5)) w7 K7 X) (fun c14_7 ψ7 =>
 DetOp Rb6 Rs6 w6 (fun w8 K8 => D (L 89 c14_7) w8 K8 X) (fun c15_8 ψ8 =>
 DetOp Rs6 Rb6 w6 (fun w9 K9 => CallF Tryz.prog 61 #[c15_8] w9 K9 X) (fun c16_9 ψ9 =>
 DetOp Rb6 Rs6 w6 (fun w10 K10 => D (Op.unary UnOp.not c16_9) w10 K10 X) (fun c17_10 ψ10 =>
 Gd c17_10 false (DetOp Rb6 Rs6 w6 (fun w11 K11 => D (A 25 v0 (h1 5)) w11 K11 X) (fun c21_11 ψ11 =>
 DetOp Rb6 Rs6 w6 (fun w12 K12 => D (F 89 c21_11 0) w12 K12 X) (fun c22_12 ψ12 =>
 DetOp Rb6 Rs6 w6 (fun w13 K13 => D (L 3 c22_12) w13 K13 X) (fun c23_13 ψ13 =>
 DetOp Rb6 Rs6 w6 (fun w14 K14 => D (binS BinOp.add 3 (T 24) (T 25) v1 (h1 5)) w14 K14 X) (fun c26_14 ψ14 =>
 DetOp Rb6 Rs6 w6 (fun w15 K15 => D (binS BinOp.neq 3 (T 23) (T 26) c23_13 c26_14) w15 K15 X) (fun c27_15 ψ15 =>
 Gd c27_15 false (DetOp Rb6 Rs6 w6 (fun w16 K16 => D (binS BinOp.gtr 3 (T 30) (C (I 0)) (h1 5) (I 0)) w16 K16 X) (fun c31_16 ψ16 =>
 Gd c31_16 true (DetOp Rb6 Rs6 w6 (fun w17 K17 => D (A 25 v0 (h1 5)) w17 K17 X) (fun c35_17 ψ17 =>
 DetOp Rb6 Rs6 w6 (fun w18 K18 => D (F 89 c35_17 1) w18 K18 X) (fun c36_18 ψ18 =>
 DetOp Rb6 Rs6 w6 (fun w19 K19 => D (L 3 c36_18) w19 K19 X) (fun c37_19 ψ19 =>
 DetOp Rb6 Rs6 w6 (fun w20 K20 => D (binS BinOp.sub 3 (T 39) (C (I 1)) (h1 5) (I 1)) w20 K20 X) (fun c40_20 ψ20 =>
 DetOp Rb6 Rs6 w6 (fun w21 K21 => D (A 25 v0 c40_20) w21 K21 X) (fun c41_21 ψ21 =>
 DetOp Rb6 Rs6 w6 (fun w22 K22 => D (F 89 c41_21 1) w22 K22 X) (fun c42_22 ψ22 =>
 DetOp Rb6 Rs6 w6 (fun w23 K23 => D (L 3 c42_22) w23 K23 X) (fun c43_23 ψ23 =>
 ∀ w24, Rb6 w6 w24 → (((((((((((((((((True ∧ ψ7 w24) ∧ ψ8 w24) ∧ ψ9 w24) ∧ ψ10 w24) ∧ ψ11 w24) ∧ ψ12 w24) ∧ ψ13 w24) ∧ ψ14 w24) ∧ ψ15 w24) ∧ ψ16 w24) ∧ ψ17 w24) ∧ ψ18 w24) ∧ ψ19 w24) ∧ ψ20 w24) ∧ ψ21 w24) ∧ ψ22 w24) ∧ ψ23 w24) →
 D (binS BinOp.lss 3 (T 37) (T 43) c37_19 c43_23) w24 (fun t25 w25 =>
 K5 [t25] w25) X))))))))
(∀ w26, Rb6 w6 w26 → ((((((((((True ∧ ψ7 w26) ∧ ψ8 w26) ∧ ψ9 w26) ∧ ψ10 w26) ∧ ψ11 w26) ∧ ψ12 w26) ∧ ψ13 w26) ∧ ψ14 w26) ∧ ψ15 w26) ∧ ψ16 w26) →
 K5 [(V false)] w26)))
(∀ w27, Rb6 w6 w27 → (((((((((True ∧ ψ7 w27) ∧ ψ8 w27) ∧ ψ9 w27) ∧ ψ10 w27) ∧ ψ11 w27) ∧ ψ12 w27) ∧ ψ13 w27) ∧ ψ14 w27) ∧ ψ15 w27) →
 K5 [(V true)] w27)))))))
(∀ w28, Rb6 w6 w28 → ((((True ∧ ψ7 w28) ∧ ψ8 w28) ∧ ψ9 w28) ∧ ψ10 w28) →
 K5 [(V true)] w28)))))))
(fun h29 w29 =>
 Br (h29 46)
(R (.returned (V false)) w29)
(K4 [] w29)))
(fun _ w30 =>
 D (binS BinOp.add 3 (T 10) (C (I 1)) (h1 5) (I 1)) w30 (fun t31 w31 =>
 K1 [t31] w31) X))
(B Builtin.len #[25] 3 #[false] #[v0] w3 (fun t32 w32 =>
 D (binS BinOp.leq 3 (T 48) (C (I 2000)) t32 (I 2000)) w32 (fun t33 w33 =>
 R (.returned t33) w33) X) X)) X) X))
theorem sh_landfallref24_Follow_ok (v0 v1 : Value) (h : sh_landfallref24_Follow v0 v1 R w) : Calls Tryz.prog 27 #[v0, v1] w R :=
  calls_of_vc (c := Tryz.f27.body.getD .skip) (args := [v0, v1]) [(4, 32, false, 5)] [5] follows_mixed Tryz.func27 rfl (of_decide_eq_true (by kernel_rfl)) (by kernel_rfl) (Eq.mp (by kernel_rfl) h)
def sh_report_Make (v0 v1 v2 v3 v4 : Value) (R : Ending → World → Prop) (w : World) : Prop := 
 letI X := Pan R
 letI D := DoV Tryz.prog
 letI U := DoU Tryz.prog
 letI Q := CallF Tryz.prog
 letI I := Value.int IntKind.i64
 letI T := Operand.tmp
 letI C := Operand.const
 letI L := Instr.loadAt
 letI F := Instr.fieldAt
 letI S := Instr.storeAt
 letI E := Instr.extract
 letI N := Instr.alloc
(D (Instr.box 52 v0) w (fun t1 w1 =>
 D (N 30 true (.tuple #[])) w1 (fun t2 w2 =>
 D (L 52 t1) w2 (fun t3 w3 =>
 D (binS BinOp.sub 3 (T 18) (C (I 1)) v1 (I 1)) w3 (fun t4 w4 =>
 Q 26 #[t3, t4] w4 (fun t5 w5 =>
 D (E t5 0) w5 (fun t6 w6 =>
 D (E t5 1) w6 (fun t7 w7 =>
 JoinE [] (fun K8 =>
 JoinE [36] (fun K9 =>
 D (binS BinOp.neq 33 (T 23) (C (I 0)) t7 (I 0)) w7 (fun t10 w10 =>
 Gd t10 false (D (binS BinOp.gtr 3 (T 26) (T 27) v1 v2) w10 (fun t11 w11 =>
 Gd t11 false (D (F 52 t1 2) w11 (fun t12 w12 =>
 D (L 25 t12) w12 (fun t13 w13 =>
 CallB Tryz.prog Builtin.len #[25] 3 #[false] #[t13] w13 (fun t14 w14 =>
 D (binS BinOp.gtr 3 (T 31) (T 34) v2 t14) w14 (fun t15 w15 =>
 K9 [t15] w15) X) X) X) X)
(K9 [(Value.bool true)] w11)) X)
(K9 [(Value.bool true)] w10)) X)
(fun h16 w16 =>
 Br (h16 36)
(D (Instr.build 30 #[]) w16 (fun t17 w17 =>
 U (S 30 t2 t17) w17 (fun _ w18 =>
 Res Tryz.prog [.cell t2 30, .tmp (I 1)] w18 R) X) X)
(K8 [] w16)))
(fun _ w19 =>
 DrawR w19 (fun R20 S20 w20 =>
 DetOp R20 (Both R20 S20) w20 (fun w21 K21 => D (F 52 t1 0) w21 K21 X) (fun c38_21 ψ21 =>
 DetOp R20 (Both R20 S20) w20 (fun w22 K22 => D (L 3 c38_21) w22 K22 X) (fun c39_22 ψ22 =>
 DetOp R20 (Both R20 S20) w20 (fun w23 K23 => D (F 52 t1 2) w23 K23 X) (fun c41_23 ψ23 =>
 DetOp R20 (Both R20 S20) w20 (fun w24 K24 => D (L 25 c41_23) w24 K24 X) (fun c42_24 ψ24 =>
 DetOp R20 (Both R20 S20) w20 (fun w25 K25 => D (binS BinOp.sub 3 (T 43) (C (I 1)) v1 (I 1)) w25 K25 X) (fun c44_25 ψ25 =>
 DetOp R20 (Both R20 S20) w20 (fun w26 K26 => D (Instr.sliceAt 25 c42_24 (some c44_25) (some v2) none) w26 K26 X) (fun c46_26 ψ26 =>
 ThrE R20 S20 0 w20 (fun Θ20_0 T20_0 =>
 NdC R20 S20 0 w20 Θ20_0 (fun w27 K27 => Q 62 #[c46_26] w27 K27 X) (fun v47_27 φ27 =>
 NdC R20 S20 0 w20 φ27 (fun w28 K28 => D (Instr.build 30 #[(0, c39_22), (1, v1), (2, v47_27), (3, t6)]) w28 K28 X) (fun v49_28 φ28 =>
 T20_0 [v47_27, v49_28] φ28))) (fun Φ20_0 =>
 ThrE R20 S20 1 w20 (fun Θ20_1 T20_1 =>
 NdC R20 S20 1 w20 Θ20_1 (fun w29 K29 => D (N 30 true (.tuple #[])) w29 K29 X) (fun v14_29 φ29 =>
 T20_1 [v14_29] φ29)) (fun Φ20_1 =>
 ∀ (h30 : Nat → Value) (w31 : World), R20 w20 w31 → ((((((True ∧ ψ21 w31) ∧ ψ22 w31) ∧ ψ23 w31) ∧ ψ24 w31) ∧ ψ25 w31) ∧ ψ26 w31) ∧ ((True ∧ Φ20_0 [(h30 47), (h30 49)] w31) ∧ Φ20_1 [(h30 14)] w31) →
 U (S 30 (h30 14) (h30 49)) w31 (fun _ w32 =>
 D (F 30 (h30 14) 2) w32 (fun t33 w33 =>
 D (L 25 t33) w33 (fun t34 w34 =>
 Q 56 #[t34, t6] w34 (fun t35 w35 =>
 D (F 30 (h30 14) 4) w35 (fun t36 w36 =>
 U (S 26 t36 t35) w36 (fun _ w37 =>
 D (L 30 (h30 14)) w37 (fun t38 w38 =>
 Q 55 #[t38] w38 (fun t39 w39 =>
 Q 63 #[v3, v4, t39] w39 (fun t40 w40 =>
 D (E t40 0) w40 (fun t41 w41 =>
 D (E t40 1) w41 (fun t42 w42 =>
 D (N 28 true (.tuple #[])) w42 (fun t43 w43 =>
 U (S 28 t43 t41) w43 (fun _ w44 =>
 D (binS BinOp.neq 33 (T 63) (C (I 0)) t42 (I 0)) w44 (fun t45 w45 =>
 Br t45
(D (Instr.build 30 #[]) w45 (fun t46 w46 =>
 U (S 30 t2 t46) w46 (fun _ w47 =>
 Res Tryz.prog [.cell t2 30, .tmp t42] w47 R) X) X)
(D (L 28 t43) w45 (fun t48 w48 =>
 D (F 30 (h30 14) 5) w48 (fun t49 w49 =>
 U (S 28 t49 t48) w49 (fun _ w50 =>
 D (L 30 (h30 14)) w50 (fun t51 w51 =>
 U (S 30 t2 t51) w51 (fun _ w52 =>
 Res Tryz.prog [.cell t2 30, .tmp (I 0)] w52 R) X) X) X) X) X)) X) X) X) X) X) X) X) X) X) X) X) X) X) X))))))))))) X) X) X) X) X) X) X)
theorem sh_report_Make_ok (v0 v1 v2 v3 v4 : Value) (h : sh_report_Make v0 v1 v2 v3 v4 R w) : Calls Tryz.prog 29 #[v0, v1, v2, v3, v4] w R :=
  calls_of_vc (c := Tryz.f29.body.getD .skip) (args := [v0, v1, v2, v3, v4]) [(4, 13, false, 146163106792)] [] follows_mixed Tryz.func29 rfl (of_decide_eq_true (by kernel_rfl)) (by kernel_rfl) (Eq.mp (by kernel_rfl) h)
def sh_landfallref24_Begin (v0 : Value) (R : Ending → World → Prop) (w : World) : Prop := 
(DoV Tryz.prog (Instr.buildSlice 91 1 #[(0, v0)]) w (fun t1 w1 =>
 CallF Tryz.prog 64 #[t1] w1 (fun t2 w2 =>
 R (.returned t2) w2) (Pan R)) (Pan R))
theorem sh_landfallref24_Begin_ok (v0 : Value) (h : sh_landfallref24_Begin v0 R w) : Calls Tryz.prog 30 #[v0] w R :=
  calls_of_vc (c := Tryz.f30.body.getD .skip) (args := [v0]) [] [] follows_mixed Tryz.func30 rfl (of_decide_eq_true (by kernel_rfl)) (by kernel_rfl) (Eq.mp (by kernel_rfl) h)
def sh_landfallref24_Formed (v0 : Value) (R : Ending → World → Prop) (w : World) : Prop := 
 letI X := Pan R
 letI D := DoV Tryz.prog
 letI Q := CallF Tryz.prog
 letI I := Value.int IntKind.i64
 letI L := Instr.loadAt
 letI F := Instr.fieldAt
(D (Instr.box 30 v0) w (fun t1 w1 =>
 D (F 30 t1 0) w1 (fun t2 w2 =>
 D (L 3 t2) w2 (fun t3 w3 =>
 Q 58 #[t3, (I 1), (I 1000000)] w3 (fun t4 w4 =>
 Gd t4 true (D (F 30 t1 2) w4 (fun t5 w5 =>
 D (L 25 t5) w5 (fun t6 w6 =>
 CallB Tryz.prog Builtin.len #[25] 3 #[false] #[t6] w6 (fun t7 w7 =>
 D (binS BinOp.gtr 3 (Operand.tmp 9) (Operand.const (I 0)) t7 (I 0)) w7 (fun t8 w8 =>
 Gd t8 true (D (F 30 t1 2) w8 (fun t9 w9 =>
 D (L 25 t9) w9 (fun t10 w10 =>
 D (F 30 t1 1) w10 (fun t11 w11 =>
 D (L 3 t11) w11 (fun t12 w12 =>
 Q 27 #[t10, t12] w12 (fun t13 w13 =>
 R (.returned t13) w13) X) X) X) X) X)
(R (.returned (Value.bool false)) w8)) X) X) X) X)
(R (.returned (Value.bool false)) w4)) X) X) X) X)
theorem sh_landfallref24_Formed_ok (v0 : Value) (h : sh_landfallref24_Formed v0 R w) : Calls Tryz.prog 39 #[v0] w R :=
  calls_of_vc (c := Tryz.f39.body.getD .skip) (args := [v0]) [] [] follows_mixed Tryz.func39 rfl (of_decide_eq_true (by kernel_rfl)) (by kernel_rfl) (Eq.mp (by kernel_rfl) h)
def sh_landfallref24_Same (v0 v1 : Value) (R : Ending → World → Prop) (w : World) : Prop := 
 letI X := Pan R
 letI D := DoV Tryz.prog
 letI T := Operand.tmp
 letI L := Instr.loadAt
 letI F := Instr.fieldAt
 letI V := Value.bool
 letI J := BinOp.eql
(D (Instr.box 30 v0) w (fun t1 w1 =>
 D (Instr.box 30 v1) w1 (fun t2 w2 =>
 D (F 30 t1 0) w2 (fun t3 w3 =>
 D (L 3 t3) w3 (fun t4 w4 =>
 D (F 30 t2 0) w4 (fun t5 w5 =>
 D (L 3 t5) w5 (fun t6 w6 =>
 D (binS J 3 (T 6) (T 8) t4 t6) w6 (fun t7 w7 =>
 Gd t7 true (D (F 30 t1 1) w7 (fun t8 w8 =>
 D (L 3 t8) w8 (fun t9 w9 =>
 D (F 30 t2 1) w9 (fun t10 w10 =>
 D (L 3 t10) w10 (fun t11 w11 =>
 D (binS J 3 (T 12) (T 14) t9 t11) w11 (fun t12 w12 =>
 Gd t12 true (D (F 30 t1 3) w12 (fun t13 w13 =>
 D (L 26 t13) w13 (fun t14 w14 =>
 D (F 30 t2 3) w14 (fun t15 w15 =>
 D (L 26 t15) w15 (fun t16 w16 =>
 D (binS J 26 (T 19) (T 21) t14 t16) w16 (fun t17 w17 =>
 Gd t17 true (D (F 30 t1 4) w17 (fun t18 w18 =>
 D (L 26 t18) w18 (fun t19 w19 =>
 D (F 30 t2 4) w19 (fun t20 w20 =>
 D (L 26 t20) w20 (fun t21 w21 =>
 D (binS J 26 (T 26) (T 28) t19 t21) w21 (fun t22 w22 =>
 Gd t22 true (D (F 30 t1 5) w22 (fun t23 w23 =>
 D (L 28 t23) w23 (fun t24 w24 =>
 D (F 30 t2 5) w24 (fun t25 w25 =>
 D (L 28 t25) w25 (fun t26 w26 =>
 D (binS J 28 (T 33) (T 35) t24 t26) w26 (fun t27 w27 =>
 Gd t27 true (D (F 30 t1 2) w27 (fun t28 w28 =>
 D (L 25 t28) w28 (fun t29 w29 =>
 D (F 30 t2 2) w29 (fun t30 w30 =>
 D (L 25 t30) w30 (fun t31 w31 =>
 CallF Tryz.prog 20 #[t29, t31] w31 (fun t32 w32 =>
 R (.returned t32) w32) X) X) X) X) X)
(R (.returned (V false)) w27)) X) X) X) X) X)
(R (.returned (V false)) w22)) X) X) X) X) X)
(R (.returned (V false)) w17)) X) X) X) X) X)
(R (.returned (V false)) w12)) X) X) X) X) X)
(R (.returned (V false)) w7)) X) X) X) X) X) X) X)
theorem sh_landfallref24_Same_ok (v0 v1 : Value) (h : sh_landfallref24_Same v0 v1 R w) : Calls Tryz.prog 41 #[v0, v1] w R :=
  calls_of_vc (c := Tryz.f41.body.getD .skip) (args := [v0, v1]) [] [] follows_mixed Tryz.func41 rfl (of_decide_eq_true (by kernel_rfl)) (by kernel_rfl) (Eq.mp (by kernel_rfl) h)
def sh_report_isID (v0 : Value) (R : Ending → World → Prop) (w : World) : Prop := 
 letI I := Value.int IntKind.i64
(DoV Tryz.prog (binS BinOp.leq 3 (Operand.const (I 1)) (Operand.tmp 3) (I 1) v0) w (fun t1 w1 =>
 Gd t1 true (DoV Tryz.prog (binS BinOp.leq 3 (Operand.tmp 6) (Operand.const (I 1000000)) v0 (I 1000000)) w1 (fun t2 w2 =>
 R (.returned t2) w2) (Pan R))
(R (.returned (Value.bool false)) w1)) (Pan R))
theorem sh_report_isID_ok (v0 : Value) (h : sh_report_isID v0 R w) : Calls Tryz.prog 52 #[v0] w R :=
  calls_of_vc (c := Tryz.f52.body.getD .skip) (args := [v0]) [] [] follows_mixed Tryz.func52 rfl (of_decide_eq_true (by kernel_rfl)) (by kernel_rfl) (Eq.mp (by kernel_rfl) h)
def sh__report_entries_follow (v0 v1 : Value) (R : Ending → World → Prop) (w : World) : Prop := 
 letI X := Pan R
 letI D := DoV Tryz.prog
 letI B := CallB Tryz.prog
 letI I := Value.int IntKind.i64
 letI T := Operand.tmp
 letI C := Operand.const
 letI L := Instr.loadAt
 letI F := Instr.fieldAt
 letI V := Value.bool
(B Builtin.len #[95] 3 #[false] #[v0] w (fun t1 w1 =>
 LoopE [9] [(I 0)] w1 (fun h2 w2 K2 =>
 D (binS BinOp.lss 3 (T 9) (T 8) (h2 9) t1) w2 (fun t3 w3 =>
 Br t3
(JoinE [] (fun K4 =>
 D (Instr.indexAt 95 v0 (h2 9)) w3 (fun t5 w5 =>
 D (L 89 t5) w5 (fun t6 w6 =>
 D (Instr.alloc 89 true (.tuple #[])) w6 (fun t7 w7 =>
 DoU Tryz.prog (Instr.storeAt 89 t7 t6) w7 (fun _ w8 =>
 JoinE [39] (fun K9 =>
 DrawE w8 (fun Rs10 Rb10 w10 =>
 DetOp Rb10 Rs10 w10 (fun w11 K11 => D (L 89 t7) w11 K11 X) (fun c14_11 ψ11 =>
 DetOp Rs10 Rb10 w10 (fun w12 K12 => CallF Tryz.prog 87 #[c14_11] w12 K12 X) (fun c15_12 ψ12 =>
 DetOp Rb10 Rs10 w10 (fun w13 K13 => D (Op.unary UnOp.not c15_12) w13 K13 X) (fun c16_13 ψ13 =>
 Gd c16_13 false (DetOp Rb10 Rs10 w10 (fun w14 K14 => D (F 89 t7 0) w14 K14 X) (fun c18_14 ψ14 =>
 DetOp Rb10 Rs10 w10 (fun w15 K15 => D (L 3 c18_14) w15 K15 X) (fun c19_15 ψ15 =>
 DetOp Rb10 Rs10 w10 (fun w16 K16 => D (binS BinOp.add 3 (T 20) (T 21) v1 (h2 9)) w16 K16 X) (fun c22_16 ψ16 =>
 DetOp Rb10 Rs10 w10 (fun w17 K17 => D (binS BinOp.neq 3 (T 19) (T 22) c19_15 c22_16) w17 K17 X) (fun c23_17 ψ17 =>
 Gd c23_17 false (DetOp Rb10 Rs10 w10 (fun w18 K18 => D (binS BinOp.gtr 3 (T 26) (C (I 0)) (h2 9) (I 0)) w18 K18 X) (fun c27_18 ψ18 =>
 Gd c27_18 true (DetOp Rb10 Rs10 w10 (fun w19 K19 => D (F 89 t7 1) w19 K19 X) (fun c29_19 ψ19 =>
 DetOp Rb10 Rs10 w10 (fun w20 K20 => D (L 3 c29_19) w20 K20 X) (fun c30_20 ψ20 =>
 DetOp Rb10 Rs10 w10 (fun w21 K21 => D (binS BinOp.sub 3 (T 32) (C (I 1)) (h2 9) (I 1)) w21 K21 X) (fun c33_21 ψ21 =>
 DetOp Rb10 Rs10 w10 (fun w22 K22 => D (Instr.indexAt 95 v0 c33_21) w22 K22 X) (fun c34_22 ψ22 =>
 DetOp Rb10 Rs10 w10 (fun w23 K23 => D (F 89 c34_22 1) w23 K23 X) (fun c35_23 ψ23 =>
 DetOp Rb10 Rs10 w10 (fun w24 K24 => D (L 3 c35_23) w24 K24 X) (fun c36_24 ψ24 =>
 ∀ w25, Rb10 w10 w25 → ((((((((((((((True ∧ ψ11 w25) ∧ ψ12 w25) ∧ ψ13 w25) ∧ ψ14 w25) ∧ ψ15 w25) ∧ ψ16 w25) ∧ ψ17 w25) ∧ ψ18 w25) ∧ ψ19 w25) ∧ ψ20 w25) ∧ ψ21 w25) ∧ ψ22 w25) ∧ ψ23 w25) ∧ ψ24 w25) →
 D (binS BinOp.lss 3 (T 30) (T 36) c30_20 c36_24) w25 (fun t26 w26 =>
 K9 [t26] w26) X)))))))
(∀ w27, Rb10 w10 w27 → ((((((((True ∧ ψ11 w27) ∧ ψ12 w27) ∧ ψ13 w27) ∧ ψ14 w27) ∧ ψ15 w27) ∧ ψ16 w27) ∧ ψ17 w27) ∧ ψ18 w27) →
 K9 [(V false)] w27)))
(∀ w28, Rb10 w10 w28 → (((((((True ∧ ψ11 w28) ∧ ψ12 w28) ∧ ψ13 w28) ∧ ψ14 w28) ∧ ψ15 w28) ∧ ψ16 w28) ∧ ψ17 w28) →
 K9 [(V true)] w28))))))
(∀ w29, Rb10 w10 w29 → (((True ∧ ψ11 w29) ∧ ψ12 w29) ∧ ψ13 w29) →
 K9 [(V true)] w29))))))
(fun h30 w30 =>
 Br (h30 39)
(R (.returned (V false)) w30)
(K4 [] w30))) X) X) X) X)
(fun _ w31 =>
 D (binS BinOp.add 3 (T 9) (C (I 1)) (h2 9) (I 1)) w31 (fun t32 w32 =>
 K2 [t32] w32) X))
(B Builtin.len #[95] 3 #[false] #[v0] w3 (fun t33 w33 =>
 D (binS BinOp.leq 3 (T 42) (C (I 2000)) t33 (I 2000)) w33 (fun t34 w34 =>
 R (.returned t34) w34) X) X)) X)) X)
theorem sh__report_entries_follow_ok (v0 v1 : Value) (h : sh__report_entries_follow v0 v1 R w) : Calls Tryz.prog 53 #[v0, v1] w R :=
  calls_of_vc (c := Tryz.f53.body.getD .skip) (args := [v0, v1]) [(4, 23, false, 2)] [9] follows_mixed Tryz.func53 rfl (of_decide_eq_true (by kernel_rfl)) (by kernel_rfl) (Eq.mp (by kernel_rfl) h)
def sh_report_message (v0 : Value) (R : Ending → World → Prop) (w : World) : Prop := 
 letI X := Pan R
 letI D := DoV Tryz.prog
 letI B := CallB Tryz.prog
 letI I := Value.int IntKind.i64
 letI T := Operand.tmp
 letI C := Operand.const
 letI L := Instr.loadAt
 letI F := Instr.fieldAt
(D (Instr.box 30 v0) w (fun t1 w1 =>
 D (F 30 t1 0) w1 (fun t2 w2 =>
 D (L 3 t2) w2 (fun t3 w3 =>
 D (F 30 t1 1) w3 (fun t4 w4 =>
 D (L 3 t4) w4 (fun t5 w5 =>
 D (F 30 t1 2) w5 (fun t6 w6 =>
 D (L 25 t6) w6 (fun t7 w7 =>
 B Builtin.len #[25] 3 #[false] #[t7] w7 (fun t8 w8 =>
 D (Instr.buildSlice 91 3 #[(0, t3), (1, t5), (2, t8)]) w8 (fun t9 w9 =>
 D (F 30 t1 3) w9 (fun t10 w10 =>
 D (L 26 t10) w10 (fun t11 w11 =>
 D (F 30 t1 4) w11 (fun t12 w12 =>
 D (L 26 t12) w12 (fun t13 w13 =>
 D (Instr.buildSlice 80 2 #[(0, t11), (1, t13)]) w13 (fun t14 w14 =>
 B Builtin.len #[80] 3 #[false] #[t14] w14 (fun t15 w15 =>
 LoopE [3, 20] [t9, (I 0)] w15 (fun h16 w16 K16 =>
 D (binS BinOp.lss 3 (T 20) (T 19) (h16 20) t15) w16 (fun t17 w17 =>
 Br t17
(D (Instr.indexAt 80 t14 (h16 20)) w17 (fun t18 w18 =>
 D (L 26 t18) w18 (fun t19 w19 =>
 D (binS BinOp.shr 26 (T 25) (C (Value.int IntKind.u64 32)) t19 (Value.int IntKind.u64 32)) w19 (fun t20 w20 =>
 D (convert 26 3 t20) w20 (fun t21 w21 =>
 D (binS BinOp.and 26 (T 28) (C (Value.int IntKind.u64 4294967295)) t19 (Value.int IntKind.u64 4294967295)) w21 (fun t22 w22 =>
 D (convert 26 3 t22) w22 (fun t23 w23 =>
 D (Instr.buildSlice 91 2 #[(0, t21), (1, t23)]) w23 (fun t24 w24 =>
 B Builtin.append #[91, 91] 91 #[false, false] #[(h16 3), t24] w24 (fun t25 w25 =>
 D (binS BinOp.add 3 (T 20) (C (I 1)) (h16 20) (I 1)) w25 (fun t26 w26 =>
 K16 [t25, t26] w26) X) X) X) X) X) X) X) X) X)
(R (.returned (h16 3)) w17)) X)) X) X) X) X) X) X) X) X) X) X) X) X) X) X) X)
theorem sh_report_message_ok (v0 : Value) (h : sh_report_message v0 R w) : Calls Tryz.prog 55 #[v0] w R :=
  calls_of_vc (c := Tryz.f55.body.getD .skip) (args := [v0]) [] [3, 20] follows_mixed Tryz.func55 rfl (of_decide_eq_true (by kernel_rfl)) (by kernel_rfl) (Eq.mp (by kernel_rfl) h)
def sh__report_entries_carry (v0 v1 : Value) (R : Ending → World → Prop) (w : World) : Prop := 
 letI X := Pan R
 letI D := DoV Tryz.prog
 letI Q := CallF Tryz.prog
 letI I := Value.int IntKind.i64
 letI T := Operand.tmp
(CallB Tryz.prog Builtin.len #[95] 3 #[false] #[v0] w (fun t1 w1 =>
 LoopE [1, 9] [v1, (I 0)] w1 (fun h2 w2 K2 =>
 D (binS BinOp.lss 3 (T 9) (T 8) (h2 9) t1) w2 (fun t3 w3 =>
 Br t3
(D (Instr.indexAt 95 v0 (h2 9)) w3 (fun t4 w4 =>
 D (Instr.loadAt 89 t4) w4 (fun t5 w5 =>
 D (Instr.alloc 89 true (.tuple #[])) w5 (fun t6 w6 =>
 DoU Tryz.prog (Instr.storeAt 89 t6 t5) w6 (fun _ w7 =>
 D (Instr.loadAt 89 t6) w7 (fun t8 w8 =>
 Q 92 #[t8] w8 (fun t9 w9 =>
 Q 48 #[(h2 1), t9] w9 (fun t10 w10 =>
 D (binS BinOp.add 3 (T 9) (Operand.const (I 1)) (h2 9) (I 1)) w10 (fun t11 w11 =>
 K2 [t10, t11] w11) X) X) X) X) X) X) X) X)
(R (.returned (h2 1)) w3)) X)) X)
theorem sh__report_entries_carry_ok (v0 v1 : Value) (h : sh__report_entries_carry v0 v1 R w) : Calls Tryz.prog 56 #[v0, v1] w R :=
  calls_of_vc (c := Tryz.f56.body.getD .skip) (args := [v0, v1]) [] [1, 9] follows_mixed Tryz.func56 rfl (of_decide_eq_true (by kernel_rfl)) (by kernel_rfl) (Eq.mp (by kernel_rfl) h)
def sh_landfallref24_in (v0 v1 v2 : Value) (R : Ending → World → Prop) (w : World) : Prop := 
 letI T := Operand.tmp
(DoV Tryz.prog (binS BinOp.geq 3 (T 7) (T 8) v0 v1) w (fun t1 w1 =>
 Gd t1 true (DoV Tryz.prog (binS BinOp.leq 3 (T 11) (T 12) v0 v2) w1 (fun t2 w2 =>
 R (.returned t2) w2) (Pan R))
(R (.returned (Value.bool false)) w1)) (Pan R))
theorem sh_landfallref24_in_ok (v0 v1 v2 : Value) (h : sh_landfallref24_in v0 v1 v2 R w) : Calls Tryz.prog 58 #[v0, v1, v2] w R :=
  calls_of_vc (c := Tryz.f58.body.getD .skip) (args := [v0, v1, v2]) [] [] follows_mixed Tryz.func58 rfl (of_decide_eq_true (by kernel_rfl)) (by kernel_rfl) (Eq.mp (by kernel_rfl) h)
def sh_report_Valid (v0 : Value) (R : Ending → World → Prop) (w : World) : Prop := 
 letI X := Pan R
 letI D := DoV Tryz.prog
 letI Q := CallF Tryz.prog
 letI I := Value.int IntKind.i64
 letI L := Instr.loadAt
 letI F := Instr.fieldAt
 letI V := Value.bool
(D (Instr.box 52 v0) w (fun t1 w1 =>
 D (F 52 t1 0) w1 (fun t2 w2 =>
 D (L 3 t2) w2 (fun t3 w3 =>
 Q 52 #[t3] w3 (fun t4 w4 =>
 Gd t4 true (D (F 52 t1 1) w4 (fun t5 w5 =>
 D (L 50 t5) w5 (fun t6 w6 =>
 CallB Tryz.prog Builtin.len #[50] 3 #[false] #[t6] w6 (fun t7 w7 =>
 D (binS BinOp.gtr 3 (Operand.tmp 9) (Operand.const (I 0)) t7 (I 0)) w7 (fun t8 w8 =>
 Gd t8 true (D (F 52 t1 1) w8 (fun t9 w9 =>
 D (L 50 t9) w9 (fun t10 w10 =>
 Q 94 #[t10] w10 (fun t11 w11 =>
 Gd t11 true (D (F 52 t1 2) w11 (fun t12 w12 =>
 D (L 25 t12) w12 (fun t13 w13 =>
 Q 53 #[t13, (I 1)] w13 (fun t14 w14 =>
 R (.returned t14) w14) X) X) X)
(R (.returned (V false)) w11)) X) X) X)
(R (.returned (V false)) w8)) X) X) X) X)
(R (.returned (V false)) w4)) X) X) X) X)
theorem sh_report_Valid_ok (v0 : Value) (h : sh_report_Valid v0 R w) : Calls Tryz.prog 60 #[v0] w R :=
  calls_of_vc (c := Tryz.f60.body.getD .skip) (args := [v0]) [] [] follows_mixed Tryz.func60 rfl (of_decide_eq_true (by kernel_rfl)) (by kernel_rfl) (Eq.mp (by kernel_rfl) h)
def sh_landfallref24_Form (v0 : Value) (R : Ending → World → Prop) (w : World) : Prop := 
 letI X := Pan R
(DoV Tryz.prog (Instr.box 89 v0) w (fun t1 w1 =>
 DoV Tryz.prog (Instr.loadAt 89 t1) w1 (fun t2 w2 =>
 CallF Tryz.prog 95 #[t2] w2 (fun t3 w3 =>
 R (.returned t3) w3) X) X) X)
theorem sh_landfallref24_Form_ok (v0 : Value) (h : sh_landfallref24_Form v0 R w) : Calls Tryz.prog 61 #[v0] w R :=
  calls_of_vc (c := Tryz.f61.body.getD .skip) (args := [v0]) [] [] follows_mixed Tryz.func61 rfl (of_decide_eq_true (by kernel_rfl)) (by kernel_rfl) (Eq.mp (by kernel_rfl) h)
def sh_slices_Clone___api_Entry_api_Entry_ (v0 : Value) (R : Ending → World → Prop) (w : World) : Prop := 
 letI X := Pan R
(DoV Tryz.prog (binS BinOp.eql 25 (Operand.tmp 3) (Operand.const (Value.slice none 0 0)) v0 (Value.slice none 0 0)) w (fun t1 w1 =>
 Br t1
(R (.returned (Value.slice none 0 0)) w1)
(DoV Tryz.prog (Instr.buildSlice 25 0 #[]) w1 (fun t2 w2 =>
 CallB Tryz.prog Builtin.append #[25, 25] 25 #[false, false] #[t2, v0] w2 (fun t3 w3 =>
 R (.returned t3) w3) X) X)) X)
theorem sh_slices_Clone___api_Entry_api_Entry__ok (v0 : Value) (h : sh_slices_Clone___api_Entry_api_Entry_ v0 R w) : Calls Tryz.prog 62 #[v0] w R :=
  calls_of_vc (c := Tryz.f62.body.getD .skip) (args := [v0]) [] [] follows_mixed Tryz.func62 rfl (of_decide_eq_true (by kernel_rfl)) (by kernel_rfl) (Eq.mp (by kernel_rfl) h)
def sh_landfallref24_Message (v0 : Value) (R : Ending → World → Prop) (w : World) : Prop := 
 letI X := Pan R
 letI D := DoV Tryz.prog
 letI T := Operand.tmp
 letI C := Operand.const
 letI L := Instr.loadAt
 letI F := Instr.fieldAt
(D (Instr.box 30 v0) w (fun t1 w1 =>
 D (F 30 t1 0) w1 (fun t2 w2 =>
 D (L 3 t2) w2 (fun t3 w3 =>
 D (F 30 t1 1) w3 (fun t4 w4 =>
 D (L 3 t4) w4 (fun t5 w5 =>
 D (F 30 t1 2) w5 (fun t6 w6 =>
 D (L 25 t6) w6 (fun t7 w7 =>
 CallB Tryz.prog Builtin.len #[25] 3 #[false] #[t7] w7 (fun t8 w8 =>
 D (F 30 t1 3) w8 (fun t9 w9 =>
 D (L 26 t9) w9 (fun t10 w10 =>
 D (binS BinOp.quo 26 (T 11) (C (Value.int IntKind.u64 4294967296)) t10 (Value.int IntKind.u64 4294967296)) w10 (fun t11 w11 =>
 D (convert 26 3 t11) w11 (fun t12 w12 =>
 D (F 30 t1 3) w12 (fun t13 w13 =>
 D (L 26 t13) w13 (fun t14 w14 =>
 D (binS BinOp.rem 26 (T 15) (C (Value.int IntKind.u64 4294967296)) t14 (Value.int IntKind.u64 4294967296)) w14 (fun t15 w15 =>
 D (convert 26 3 t15) w15 (fun t16 w16 =>
 D (F 30 t1 4) w16 (fun t17 w17 =>
 D (L 26 t17) w17 (fun t18 w18 =>
 D (binS BinOp.quo 26 (T 19) (C (Value.int IntKind.u64 4294967296)) t18 (Value.int IntKind.u64 4294967296)) w18 (fun t19 w19 =>
 D (convert 26 3 t19) w19 (fun t20 w20 =>
 D (F 30 t1 4) w20 (fun t21 w21 =>
 D (L 26 t21) w21 (fun t22 w22 =>
 D (binS BinOp.rem 26 (T 23) (C (Value.int IntKind.u64 4294967296)) t22 (Value.int IntKind.u64 4294967296)) w22 (fun t23 w23 =>
 D (convert 26 3 t23) w23 (fun t24 w24 =>
 D (Instr.buildSlice 91 7 #[(0, t3), (1, t5), (2, t8), (3, t12), (4, t16), (5, t20), (6, t24)]) w24 (fun t25 w25 =>
 R (.returned t25) w25) X) X) X) X) X) X) X) X) X) X) X) X) X) X) X) X) X) X) X) X) X) X) X) X) X)
theorem sh_landfallref24_Message_ok (v0 : Value) (h : sh_landfallref24_Message v0 R w) : Calls Tryz.prog 71 #[v0] w R :=
  calls_of_vc (c := Tryz.f71.body.getD .skip) (args := [v0]) [] [] follows_mixed Tryz.func71 rfl (of_decide_eq_true (by kernel_rfl)) (by kernel_rfl) (Eq.mp (by kernel_rfl) h)
def sh_landfallref24_Ints (v0 : Value) (R : Ending → World → Prop) (w : World) : Prop := 
 letI X := Pan R
 letI D := DoV Tryz.prog
 letI L := Instr.loadAt
 letI F := Instr.fieldAt
(D (Instr.box 89 v0) w (fun t1 w1 =>
 D (F 89 t1 0) w1 (fun t2 w2 =>
 D (L 3 t2) w2 (fun t3 w3 =>
 D (F 89 t1 1) w3 (fun t4 w4 =>
 D (L 3 t4) w4 (fun t5 w5 =>
 D (F 89 t1 2) w5 (fun t6 w6 =>
 D (L 3 t6) w6 (fun t7 w7 =>
 D (F 89 t1 3) w7 (fun t8 w8 =>
 D (L 3 t8) w8 (fun t9 w9 =>
 D (F 89 t1 4) w9 (fun t10 w10 =>
 D (L 3 t10) w10 (fun t11 w11 =>
 D (F 89 t1 5) w11 (fun t12 w12 =>
 D (L 3 t12) w12 (fun t13 w13 =>
 D (F 89 t1 6) w13 (fun t14 w14 =>
 D (L 3 t14) w14 (fun t15 w15 =>
 D (F 89 t1 7) w15 (fun t16 w16 =>
 D (F 87 t16 0) w16 (fun t17 w17 =>
 D (L 3 t17) w17 (fun t18 w18 =>
 D (F 89 t1 7) w18 (fun t19 w19 =>
 D (F 87 t19 1) w19 (fun t20 w20 =>
 D (L 3 t20) w20 (fun t21 w21 =>
 D (F 89 t1 8) w21 (fun t22 w22 =>
 D (L 3 t22) w22 (fun t23 w23 =>
 D (F 89 t1 9) w23 (fun t24 w24 =>
 D (L 3 t24) w24 (fun t25 w25 =>
 D (F 89 t1 10) w25 (fun t26 w26 =>
 D (L 3 t26) w26 (fun t27 w27 =>
 D (Instr.buildSlice 91 12 #[(0, t3), (1, t5), (2, t7), (3, t9), (4, t11), (5, t13), (6, t15), (7, t18), (8, t21), (9, t23), (10, t25), (11, t27)]) w27 (fun t28 w28 =>
 R (.returned t28) w28) X) X) X) X) X) X) X) X) X) X) X) X) X) X) X) X) X) X) X) X) X) X) X) X) X) X) X) X)
theorem sh_landfallref24_Ints_ok (v0 : Value) (h : sh_landfallref24_Ints v0 R w) : Calls Tryz.prog 86 #[v0] w R :=
  calls_of_vc (c := Tryz.f86.body.getD .skip) (args := [v0]) [] [] follows_mixed Tryz.func86 rfl (of_decide_eq_true (by kernel_rfl)) (by kernel_rfl) (Eq.mp (by kernel_rfl) h)
def sh_report_isEntry (v0 : Value) (R : Ending → World → Prop) (w : World) : Prop := 
 letI X := Pan R
 letI D := DoV Tryz.prog
 letI Q := CallF Tryz.prog
 letI I := Value.int IntKind.i64
 letI T := Operand.tmp
 letI C := Operand.const
 letI L := Instr.loadAt
 letI F := Instr.fieldAt
 letI A := Instr.indexAt
 letI V := Value.bool
 letI J := BinOp.eql
 letI M := BinOp.lss
(D (Instr.box 89 v0) w (fun t1 w1 =>
 D (F 89 t1 2) w1 (fun t2 w2 =>
 D (L 3 t2) w2 (fun t3 w3 =>
 Q 120 #[t3] w3 (fun t4 w4 =>
 D (Instr.extract t4 0) w4 (fun t5 w5 =>
 D (Instr.extract t4 1) w5 (fun t6 w6 =>
 D (Instr.alloc 154 true (.tuple #[])) w6 (fun t7 w7 =>
 DoU Tryz.prog (Instr.storeAt 154 t7 t5) w7 (fun _ w8 =>
 JoinE [] (fun K9 =>
 JoinE [43] (fun K10 =>
 D (Op.unary UnOp.not t6) w8 (fun t11 w11 =>
 Gd t11 false (D (F 89 t1 0) w11 (fun t12 w12 =>
 D (L 3 t12) w12 (fun t13 w13 =>
 D (binS M 3 (T 17) (C (I 1)) t13 (I 1)) w13 (fun t14 w14 =>
 Gd t14 false (D (F 89 t1 0) w14 (fun t15 w15 =>
 D (L 3 t15) w15 (fun t16 w16 =>
 D (binS BinOp.gtr 3 (T 22) (C (I 2000)) t16 (I 2000)) w16 (fun t17 w17 =>
 Gd t17 false (D (F 89 t1 1) w17 (fun t18 w18 =>
 D (L 3 t18) w18 (fun t19 w19 =>
 D (binS M 3 (T 27) (C (I 0)) t19 (I 0)) w19 (fun t20 w20 =>
 Gd t20 false (D (F 89 t1 1) w20 (fun t21 w21 =>
 D (L 3 t21) w21 (fun t22 w22 =>
 D (binS BinOp.gtr 3 (T 32) (C (I 1000000000)) t22 (I 1000000000)) w22 (fun t23 w23 =>
 Gd t23 false (D (F 89 t1 7) w23 (fun t24 w24 =>
 D (F 87 t24 0) w24 (fun t25 w25 =>
 D (L 3 t25) w25 (fun t26 w26 =>
 D (F 89 t1 7) w26 (fun t27 w27 =>
 D (F 87 t27 1) w27 (fun t28 w28 =>
 D (L 3 t28) w28 (fun t29 w29 =>
 D (binS BinOp.gtr 3 (T 38) (T 41) t26 t29) w29 (fun t30 w30 =>
 K10 [t30] w30) X) X) X) X) X) X) X)
(K10 [(V true)] w23)) X) X) X)
(K10 [(V true)] w20)) X) X) X)
(K10 [(V true)] w17)) X) X) X)
(K10 [(V true)] w14)) X) X) X)
(K10 [(V true)] w11)) X)
(fun h31 w31 =>
 Br (h31 43)
(R (.returned (V false)) w31)
(K9 [] w31)))
(fun _ w32 =>
 D (L 89 t1) w32 (fun t33 w33 =>
 Q 92 #[t33] w33 (fun t34 w34 =>
 D (Instr.sliceAt 91 t34 (some (I 3)) none none) w34 (fun t35 w35 =>
 CallB Tryz.prog Builtin.len #[91] 3 #[false] #[t35] w35 (fun t36 w36 =>
 LoopE [48] [(I 0)] w36 (fun h37 w37 K37 =>
 D (binS M 3 (T 48) (T 47) (h37 48) t36) w37 (fun t38 w38 =>
 Br t38
(JoinE [] (fun K39 =>
 D (A 91 t35 (h37 48)) w38 (fun t40 w40 =>
 D (L 3 t40) w40 (fun t41 w41 =>
 JoinE [66] (fun K42 =>
 D (A 154 t7 (h37 48)) w41 (fun t43 w43 =>
 D (A 64 t43 (I 0)) w43 (fun t44 w44 =>
 D (L 3 t44) w44 (fun t45 w45 =>
 D (binS M 3 (T 53) (T 57) t41 t45) w45 (fun t46 w46 =>
 Gd t46 false (D (A 154 t7 (h37 48)) w46 (fun t47 w47 =>
 D (A 64 t47 (I 1)) w47 (fun t48 w48 =>
 D (L 3 t48) w48 (fun t49 w49 =>
 D (binS BinOp.gtr 3 (T 60) (T 64) t41 t49) w49 (fun t50 w50 =>
 K42 [t50] w50) X) X) X) X)
(K42 [(V true)] w46)) X) X) X) X)
(fun h51 w51 =>
 Br (h51 66)
(R (.returned (V false)) w51)
(K39 [] w51))) X) X)
(fun _ w52 =>
 D (binS BinOp.add 3 (T 48) (C (I 1)) (h37 48) (I 1)) w52 (fun t53 w53 =>
 K37 [t53] w53) X))
(D (F 89 t1 2) w38 (fun t54 w54 =>
 D (L 3 t54) w54 (fun t55 w55 =>
 D (binS J 3 (T 69) (C (I 1)) t55 (I 1)) w55 (fun t56 w56 =>
 Br t56
(D (F 89 t1 7) w56 (fun t57 w57 =>
 D (F 87 t57 0) w57 (fun t58 w58 =>
 D (L 3 t58) w58 (fun t59 w59 =>
 D (F 89 t1 7) w59 (fun t60 w60 =>
 D (F 87 t60 1) w60 (fun t61 w61 =>
 D (L 3 t61) w61 (fun t62 w62 =>
 D (binS J 3 (T 74) (T 77) t59 t62) w62 (fun t63 w63 =>
 Gd t63 true (D (F 89 t1 6) w63 (fun t64 w64 =>
 D (L 3 t64) w64 (fun t65 w65 =>
 D (F 89 t1 1) w65 (fun t66 w66 =>
 D (L 3 t66) w66 (fun t67 w67 =>
 D (binS BinOp.leq 3 (T 81) (T 83) t65 t67) w67 (fun t68 w68 =>
 R (.returned t68) w68) X) X) X) X) X)
(R (.returned (V false)) w63)) X) X) X) X) X) X) X)
(D (binS J 3 (T 69) (C (I 6)) t55 (I 6)) w56 (fun t69 w69 =>
 Br t69
(D (F 89 t1 7) w69 (fun t70 w70 =>
 D (F 87 t70 0) w70 (fun t71 w71 =>
 D (L 3 t71) w71 (fun t72 w72 =>
 D (F 89 t1 7) w72 (fun t73 w73 =>
 D (F 87 t73 1) w73 (fun t74 w74 =>
 D (L 3 t74) w74 (fun t75 w75 =>
 D (binS J 3 (T 90) (T 93) t72 t75) w75 (fun t76 w76 =>
 R (.returned t76) w76) X) X) X) X) X) X) X)
(R (.returned (V true)) w69)) X)) X) X) X)) X)) X) X) X) X)) X) X) X) X) X) X) X) X)
theorem sh_report_isEntry_ok (v0 : Value) (h : sh_report_isEntry v0 R w) : Calls Tryz.prog 87 #[v0] w R :=
  calls_of_vc (c := Tryz.f87.body.getD .skip) (args := [v0]) [] [48] follows_mixed Tryz.func87 rfl (of_decide_eq_true (by kernel_rfl)) (by kernel_rfl) (Eq.mp (by kernel_rfl) h)
def sh_report_ints (v0 : Value) (R : Ending → World → Prop) (w : World) : Prop := 
 letI X := Pan R
 letI D := DoV Tryz.prog
 letI L := Instr.loadAt
 letI F := Instr.fieldAt
(D (Instr.box 89 v0) w (fun t1 w1 =>
 D (F 89 t1 0) w1 (fun t2 w2 =>
 D (L 3 t2) w2 (fun t3 w3 =>
 D (F 89 t1 1) w3 (fun t4 w4 =>
 D (L 3 t4) w4 (fun t5 w5 =>
 D (F 89 t1 2) w5 (fun t6 w6 =>
 D (L 3 t6) w6 (fun t7 w7 =>
 D (F 89 t1 3) w7 (fun t8 w8 =>
 D (L 3 t8) w8 (fun t9 w9 =>
 D (F 89 t1 4) w9 (fun t10 w10 =>
 D (L 3 t10) w10 (fun t11 w11 =>
 D (F 89 t1 5) w11 (fun t12 w12 =>
 D (L 3 t12) w12 (fun t13 w13 =>
 D (F 89 t1 6) w13 (fun t14 w14 =>
 D (L 3 t14) w14 (fun t15 w15 =>
 D (F 89 t1 7) w15 (fun t16 w16 =>
 D (F 87 t16 0) w16 (fun t17 w17 =>
 D (L 3 t17) w17 (fun t18 w18 =>
 D (F 89 t1 7) w18 (fun t19 w19 =>
 D (F 87 t19 1) w19 (fun t20 w20 =>
 D (L 3 t20) w20 (fun t21 w21 =>
 D (F 89 t1 8) w21 (fun t22 w22 =>
 D (L 3 t22) w22 (fun t23 w23 =>
 D (F 89 t1 9) w23 (fun t24 w24 =>
 D (L 3 t24) w24 (fun t25 w25 =>
 D (F 89 t1 10) w25 (fun t26 w26 =>
 D (L 3 t26) w26 (fun t27 w27 =>
 D (Instr.buildSlice 91 12 #[(0, t3), (1, t5), (2, t7), (3, t9), (4, t11), (5, t13), (6, t15), (7, t18), (8, t21), (9, t23), (10, t25), (11, t27)]) w27 (fun t28 w28 =>
 R (.returned t28) w28) X) X) X) X) X) X) X) X) X) X) X) X) X) X) X) X) X) X) X) X) X) X) X) X) X) X) X) X)
theorem sh_report_ints_ok (v0 : Value) (h : sh_report_ints v0 R w) : Calls Tryz.prog 92 #[v0] w R :=
  calls_of_vc (c := Tryz.f92.body.getD .skip) (args := [v0]) [] [] follows_mixed Tryz.func92 rfl (of_decide_eq_true (by kernel_rfl)) (by kernel_rfl) (Eq.mp (by kernel_rfl) h)
def sh_region_Valid (v0 : Value) (R : Ending → World → Prop) (w : World) : Prop := 
 letI X := Pan R
 letI I := Value.int IntKind.i64
(CallB Tryz.prog Builtin.len #[50] 3 #[false] #[v0] w (fun t1 w1 =>
 DoV Tryz.prog (binS BinOp.leq 3 (Operand.tmp 4) (Operand.const (I 32)) t1 (I 32)) w1 (fun t2 w2 =>
 Gd t2 true (CallF Tryz.prog 123 #[v0] w2 (fun t3 w3 =>
 DoV Tryz.prog (Op.unary UnOp.not t3) w3 (fun t4 w4 =>
 R (.returned t4) w4) X) X)
(R (.returned (Value.bool false)) w2)) X) X)
theorem sh_region_Valid_ok (v0 : Value) (h : sh_region_Valid v0 R w) : Calls Tryz.prog 94 #[v0] w R :=
  calls_of_vc (c := Tryz.f94.body.getD .skip) (args := [v0]) [] [] follows_mixed Tryz.func94 rfl (of_decide_eq_true (by kernel_rfl)) (by kernel_rfl) (Eq.mp (by kernel_rfl) h)
def sh_landfallref21_Formed (v0 : Value) (R : Ending → World → Prop) (w : World) : Prop := 
 letI X := Pan R
 letI D := DoV Tryz.prog
 letI Q := CallF Tryz.prog
 letI I := Value.int IntKind.i64
 letI T := Operand.tmp
 letI C := Operand.const
 letI L := Instr.loadAt
 letI F := Instr.fieldAt
 letI V := Value.bool
 letI J := BinOp.eql
(D (Instr.box 89 v0) w (fun t1 w1 =>
 JoinE [] (fun K2 =>
 JoinE [12] (fun K3 =>
 D (F 89 t1 0) w1 (fun t4 w4 =>
 D (L 3 t4) w4 (fun t5 w5 =>
 Q 124 #[t5, (I 1), (I 2000)] w5 (fun t6 w6 =>
 D (Op.unary UnOp.not t6) w6 (fun t7 w7 =>
 Gd t7 false (D (F 89 t1 1) w7 (fun t8 w8 =>
 D (L 3 t8) w8 (fun t9 w9 =>
 Q 124 #[t9, (I 0), (I 1000000000)] w9 (fun t10 w10 =>
 D (Op.unary UnOp.not t10) w10 (fun t11 w11 =>
 K3 [t11] w11) X) X) X) X)
(K3 [(V true)] w7)) X) X) X) X)
(fun h12 w12 =>
 Br (h12 12)
(R (.returned (V false)) w12)
(K2 [] w12)))
(fun _ w13 =>
 D (F 89 t1 2) w13 (fun t14 w14 =>
 D (L 3 t14) w14 (fun t15 w15 =>
 D (binS J 3 (T 14) (C (I 1)) t15 (I 1)) w15 (fun t16 w16 =>
 Br t16
(JoinE [] (fun K17 =>
 JoinE [42] (fun K18 =>
 D (F 89 t1 3) w16 (fun t19 w19 =>
 D (L 3 t19) w19 (fun t20 w20 =>
 D (binS BinOp.neq 3 (T 17) (C (I 0)) t20 (I 0)) w20 (fun t21 w21 =>
 Gd t21 false (D (F 89 t1 4) w21 (fun t22 w22 =>
 D (L 3 t22) w22 (fun t23 w23 =>
 D (binS BinOp.neq 3 (T 21) (C (I 0)) t23 (I 0)) w23 (fun t24 w24 =>
 Gd t24 false (D (F 89 t1 5) w24 (fun t25 w25 =>
 D (L 3 t25) w25 (fun t26 w26 =>
 Q 124 #[t26, (I 0), (I 63)] w26 (fun t27 w27 =>
 D (Op.unary UnOp.not t27) w27 (fun t28 w28 =>
 Gd t28 false (D (F 89 t1 6) w28 (fun t29 w29 =>
 D (L 3 t29) w29 (fun t30 w30 =>
 Q 124 #[t30, (I 0), (I 100000)] w30 (fun t31 w31 =>
 D (Op.unary UnOp.not t31) w31 (fun t32 w32 =>
 Gd t32 false (D (F 89 t1 6) w32 (fun t33 w33 =>
 D (L 3 t33) w33 (fun t34 w34 =>
 D (F 89 t1 1) w34 (fun t35 w35 =>
 D (L 3 t35) w35 (fun t36 w36 =>
 D (binS BinOp.gtr 3 (T 38) (T 40) t34 t36) w36 (fun t37 w37 =>
 K18 [t37] w37) X) X) X) X) X)
(K18 [(V true)] w32)) X) X) X) X)
(K18 [(V true)] w28)) X) X) X) X)
(K18 [(V true)] w24)) X) X) X)
(K18 [(V true)] w21)) X) X) X)
(fun h38 w38 =>
 Br (h38 42)
(R (.returned (V false)) w38)
(K17 [] w38)))
(fun _ w39 =>
 D (F 89 t1 7) w39 (fun t40 w40 =>
 D (L 87 t40) w40 (fun t41 w41 =>
 Q 125 #[t41, (I 0), (I 100000)] w41 (fun t42 w42 =>
 Gd t42 true (D (F 89 t1 7) w42 (fun t43 w43 =>
 D (F 87 t43 0) w43 (fun t44 w44 =>
 D (L 3 t44) w44 (fun t45 w45 =>
 D (F 89 t1 7) w45 (fun t46 w46 =>
 D (F 87 t46 1) w46 (fun t47 w47 =>
 D (L 3 t47) w47 (fun t48 w48 =>
 D (binS J 3 (T 49) (T 52) t45 t48) w48 (fun t49 w49 =>
 Gd t49 true (D (F 89 t1 8) w49 (fun t50 w50 =>
 D (L 3 t50) w50 (fun t51 w51 =>
 Q 124 #[t51, (I (-1000)), (I 1000)] w51 (fun t52 w52 =>
 Gd t52 true (D (F 89 t1 9) w52 (fun t53 w53 =>
 D (L 3 t53) w53 (fun t54 w54 =>
 Q 124 #[t54, (I 0), (I 10000)] w54 (fun t55 w55 =>
 Gd t55 true (D (F 89 t1 10) w55 (fun t56 w56 =>
 D (L 3 t56) w56 (fun t57 w57 =>
 Q 124 #[t57, (I 0), (I 1000000000)] w57 (fun t58 w58 =>
 R (.returned t58) w58) X) X) X)
(R (.returned (V false)) w55)) X) X) X)
(R (.returned (V false)) w52)) X) X) X)
(R (.returned (V false)) w49)) X) X) X) X) X) X) X)
(R (.returned (V false)) w42)) X) X) X))
(JoinE [] (fun K59 =>
 JoinE [88] (fun K60 =>
 D (F 89 t1 3) w16 (fun t61 w61 =>
 D (L 3 t61) w61 (fun t62 w62 =>
 Q 124 #[t62, (I 1), (I 8)] w62 (fun t63 w63 =>
 D (Op.unary UnOp.not t63) w63 (fun t64 w64 =>
 Gd t64 false (D (F 89 t1 8) w64 (fun t65 w65 =>
 D (L 3 t65) w65 (fun t66 w66 =>
 D (binS BinOp.neq 3 (T 76) (C (I 0)) t66 (I 0)) w66 (fun t67 w67 =>
 Gd t67 false (D (F 89 t1 9) w67 (fun t68 w68 =>
 D (L 3 t68) w68 (fun t69 w69 =>
 D (binS BinOp.neq 3 (T 81) (C (I 0)) t69 (I 0)) w69 (fun t70 w70 =>
 Gd t70 false (D (F 89 t1 10) w70 (fun t71 w71 =>
 D (L 3 t71) w71 (fun t72 w72 =>
 D (binS BinOp.neq 3 (T 86) (C (I 0)) t72 (I 0)) w72 (fun t73 w73 =>
 K60 [t73] w73) X) X) X)
(K60 [(V true)] w70)) X) X) X)
(K60 [(V true)] w67)) X) X) X)
(K60 [(V true)] w64)) X) X) X) X)
(fun h74 w74 =>
 Br (h74 88)
(R (.returned (V false)) w74)
(K59 [] w74)))
(fun _ w75 =>
 D (F 89 t1 2) w75 (fun t76 w76 =>
 D (L 3 t76) w76 (fun t77 w77 =>
 D (binS J 3 (T 90) (C (I 2)) t77 (I 2)) w77 (fun t78 w78 =>
 Br t78
(D (F 89 t1 4) w78 (fun t79 w79 =>
 D (L 3 t79) w79 (fun t80 w80 =>
 D (binS J 3 (T 93) (C (I 0)) t80 (I 0)) w80 (fun t81 w81 =>
 Gd t81 true (D (F 89 t1 5) w81 (fun t82 w82 =>
 D (L 3 t82) w82 (fun t83 w83 =>
 D (binS J 3 (T 97) (C (I 0)) t83 (I 0)) w83 (fun t84 w84 =>
 Gd t84 true (D (F 89 t1 6) w84 (fun t85 w85 =>
 D (L 3 t85) w85 (fun t86 w86 =>
 D (binS J 3 (T 102) (C (I 0)) t86 (I 0)) w86 (fun t87 w87 =>
 Gd t87 true (D (F 89 t1 7) w87 (fun t88 w88 =>
 D (L 87 t88) w88 (fun t89 w89 =>
 Q 125 #[t89, (I (-100000)), (I 100000)] w89 (fun t90 w90 =>
 R (.returned t90) w90) X) X) X)
(R (.returned (V false)) w87)) X) X) X)
(R (.returned (V false)) w84)) X) X) X)
(R (.returned (V false)) w81)) X) X) X)
(D (F 89 t1 4) w78 (fun t91 w91 =>
 D (L 3 t91) w91 (fun t92 w92 =>
 Q 124 #[t92, (I 1), (I 1000000)] w92 (fun t93 w93 =>
 D (Op.unary UnOp.not t93) w93 (fun t94 w94 =>
 Br t94
(R (.returned (V false)) w94)
(D (F 89 t1 2) w94 (fun t95 w95 =>
 D (L 3 t95) w95 (fun t96 w96 =>
 D (binS J 3 (T 115) (C (I 4)) t96 (I 4)) w96 (fun t97 w97 =>
 Br t97
(D (F 89 t1 5) w97 (fun t98 w98 =>
 D (L 3 t98) w98 (fun t99 w99 =>
 Q 124 #[t99, (I 0), (I 63)] w99 (fun t100 w100 =>
 Gd t100 true (D (F 89 t1 6) w100 (fun t101 w101 =>
 D (L 3 t101) w101 (fun t102 w102 =>
 Q 124 #[t102, (I 0), (I 31)] w102 (fun t103 w103 =>
 Gd t103 true (D (F 89 t1 7) w103 (fun t104 w104 =>
 D (L 87 t104) w104 (fun t105 w105 =>
 D (Instr.build 87 #[]) w105 (fun t106 w106 =>
 D (binS J 87 (T 127) (T 128) t105 t106) w106 (fun t107 w107 =>
 R (.returned t107) w107) X) X) X) X)
(R (.returned (V false)) w103)) X) X) X)
(R (.returned (V false)) w100)) X) X) X)
(JoinE [] (fun K108 =>
 JoinE [144] (fun K109 =>
 D (F 89 t1 5) w97 (fun t110 w110 =>
 D (L 3 t110) w110 (fun t111 w111 =>
 D (binS BinOp.neq 3 (T 132) (C (I 0)) t111 (I 0)) w111 (fun t112 w112 =>
 Gd t112 false (D (F 89 t1 6) w112 (fun t113 w113 =>
 D (L 3 t113) w113 (fun t114 w114 =>
 D (binS BinOp.neq 3 (T 136) (C (I 0)) t114 (I 0)) w114 (fun t115 w115 =>
 Gd t115 false (D (F 89 t1 7) w115 (fun t116 w116 =>
 D (L 87 t116) w116 (fun t117 w117 =>
 Q 125 #[t117, (I 0), (I 100000)] w117 (fun t118 w118 =>
 D (Op.unary UnOp.not t118) w118 (fun t119 w119 =>
 K109 [t119] w119) X) X) X) X)
(K109 [(V true)] w115)) X) X) X)
(K109 [(V true)] w112)) X) X) X)
(fun h120 w120 =>
 Br (h120 144)
(R (.returned (V false)) w120)
(K108 [] w120)))
(fun _ w121 =>
 JoinE [] (fun K122 =>
 D (F 89 t1 2) w121 (fun t123 w123 =>
 D (L 3 t123) w123 (fun t124 w124 =>
 JoinE [147] (fun K125 =>
 D (binS J 3 (T 146) (C (I 3)) t124 (I 3)) w124 (fun t126 w126 =>
 Br t126
(K125 [t126] w126)
(D (binS J 3 (T 146) (C (I 7)) t124 (I 7)) w126 (fun t127 w127 =>
 K125 [t127] w127) X)) X)
(fun h128 w128 =>
 Br (h128 147)
(R (.returned (V true)) w128)
(D (binS J 3 (T 146) (C (I 5)) t124 (I 5)) w128 (fun t129 w129 =>
 Br t129
(D (F 89 t1 7) w129 (fun t130 w130 =>
 D (F 87 t130 0) w130 (fun t131 w131 =>
 D (L 3 t131) w131 (fun t132 w132 =>
 D (binS J 3 (T 154) (C (I 0)) t132 (I 0)) w132 (fun t133 w133 =>
 R (.returned t133) w133) X) X) X) X)
(D (binS J 3 (T 146) (C (I 6)) t124 (I 6)) w129 (fun t134 w134 =>
 Br t134
(D (F 89 t1 7) w134 (fun t135 w135 =>
 D (F 87 t135 0) w135 (fun t136 w136 =>
 D (L 3 t136) w136 (fun t137 w137 =>
 D (F 89 t1 7) w137 (fun t138 w138 =>
 D (F 87 t138 1) w138 (fun t139 w139 =>
 D (L 3 t139) w139 (fun t140 w140 =>
 D (binS J 3 (T 160) (T 163) t137 t140) w140 (fun t141 w141 =>
 R (.returned t141) w141) X) X) X) X) X) X) X)
(K122 [] w134)) X)) X))) X) X)
(fun _ w142 =>
 R (.returned (V false)) w142)))) X) X) X)) X) X) X) X)) X) X) X))) X) X) X)) X)
theorem sh_landfallref21_Formed_ok (v0 : Value) (h : sh_landfallref21_Formed v0 R w) : Calls Tryz.prog 95 #[v0] w R :=
  calls_of_vc (c := Tryz.f95.body.getD .skip) (args := [v0]) [] [] follows_mixed Tryz.func95 rfl (of_decide_eq_true (by kernel_rfl)) (by kernel_rfl) (Eq.mp (by kernel_rfl) h)
def sh_cmp_Compare_int_ (v0 v1 : Value) (R : Ending → World → Prop) (w : World) : Prop := 
 letI X := Pan R
 letI Q := CallF Tryz.prog
 letI I := Value.int IntKind.i64
 letI T := Operand.tmp
(Q 127 #[v0] w (fun t1 w1 =>
 Q 127 #[v1] w1 (fun t2 w2 =>
 Br t1
(Br t2
(R (.returned (I 0)) w2)
(R (.returned (I (-1))) w2))
(Br t2
(R (.returned (I 1)) w2)
(DoV Tryz.prog (binS BinOp.lss 3 (T 14) (T 15) v0 v1) w2 (fun t3 w3 =>
 Br t3
(R (.returned (I (-1))) w3)
(DoV Tryz.prog (binS BinOp.gtr 3 (T 17) (T 18) v0 v1) w3 (fun t4 w4 =>
 Br t4
(R (.returned (I 1)) w4)
(R (.returned (I 0)) w4)) X)) X))) X) X)
theorem sh_cmp_Compare_int__ok (v0 v1 : Value) (h : sh_cmp_Compare_int_ v0 v1 R w) : Calls Tryz.prog 104 #[v0, v1] w R :=
  calls_of_vc (c := Tryz.f104.body.getD .skip) (args := [v0, v1]) [] [] follows_mixed Tryz.func104 rfl (of_decide_eq_true (by kernel_rfl)) (by kernel_rfl) (Eq.mp (by kernel_rfl) h)
def sh_report_of (v0 : Value) (R : Ending → World → Prop) (w : World) : Prop := 
 letI X := Pan R
 letI D := DoV Tryz.prog
 letI U := DoU Tryz.prog
 letI Q := CallF Tryz.prog
 letI I := Value.int IntKind.i64
 letI T := Operand.tmp
 letI C := Operand.const
 letI L := Instr.loadAt
 letI S := Instr.storeAt
 letI N := Instr.alloc
 letI V := Value.bool
 letI J := BinOp.eql
(D (N 154 true (.tuple #[])) w (fun t1 w1 =>
 D (Instr.build 64 #[(0, (I 1)), (1, (I 8))]) w1 (fun t2 w2 =>
 D (Instr.build 64 #[(0, (I 1)), (1, (I 1000000))]) w2 (fun t3 w3 =>
 D (Instr.build 64 #[(0, (I 0)), (1, (I 63))]) w3 (fun t4 w4 =>
 D (N 64 true (.tuple #[])) w4 (fun t5 w5 =>
 D (N 64 true (.tuple #[])) w5 (fun t6 w6 =>
 D (N 64 true (.tuple #[])) w6 (fun t7 w7 =>
 U (S 64 t5 t2) w7 (fun _ w8 =>
 U (S 64 t6 t3) w8 (fun _ w9 =>
 U (S 64 t7 t4) w9 (fun _ w10 =>
 D (Instr.build 64 #[(0, (I 0)), (1, (I 100000))]) w10 (fun t11 w11 =>
 D (N 64 true (.tuple #[])) w11 (fun t12 w12 =>
 U (S 64 t12 t11) w12 (fun _ w13 =>
 JoinE [] (fun K14 =>
 D (binS J 3 (T 13) (C (I 1)) v0 (I 1)) w13 (fun t15 w15 =>
 Br t15
(DrawE w15 (fun Rs16 Rb16 w16 =>
 DetOp Rb16 Rs16 w16 (fun w17 K17 => Q 135 #[] w17 K17 X) (fun c16_17 ψ17 =>
 DetOp Rb16 Rs16 w16 (fun w18 K18 => Q 135 #[] w18 K18 X) (fun c17_18 ψ18 =>
 DetOp Rb16 Rs16 w16 (fun w19 K19 => D (L 64 t7) w19 K19 X) (fun c18_19 ψ19 =>
 DetOp Rb16 Rs16 w16 (fun w20 K20 => D (Instr.build 64 #[(0, (I 0)), (1, (I 100000))]) w20 K20 X) (fun c19_20 ψ20 =>
 DetOp Rb16 Rs16 w16 (fun w21 K21 => D (L 64 t12) w21 K21 X) (fun c20_21 ψ21 =>
 DetOp Rb16 Rs16 w16 (fun w22 K22 => D (L 64 t12) w22 K22 X) (fun c21_22 ψ22 =>
 DetOp Rb16 Rs16 w16 (fun w23 K23 => D (Instr.build 64 #[(0, (I (-1000))), (1, (I 1000))]) w23 K23 X) (fun c22_23 ψ23 =>
 DetOp Rb16 Rs16 w16 (fun w24 K24 => D (Instr.build 64 #[(0, (I 0)), (1, (I 10000))]) w24 K24 X) (fun c23_24 ψ24 =>
 DetOp Rb16 Rs16 w16 (fun w25 K25 => D (Instr.build 64 #[(0, (I 0)), (1, (I 1000000000))]) w25 K25 X) (fun c24_25 ψ25 =>
 DetOp Rs16 Rb16 w16 (fun w26 K26 => Q 135 #[] w26 K26 X) (fun c25_26 ψ26 =>
 ∀ w27, Rb16 w16 w27 → ((((((((((True ∧ ψ17 w27) ∧ ψ18 w27) ∧ ψ19 w27) ∧ ψ20 w27) ∧ ψ21 w27) ∧ ψ22 w27) ∧ ψ23 w27) ∧ ψ24 w27) ∧ ψ25 w27) ∧ ψ26 w27) →
 D (Instr.build 154 #[(0, c16_17), (1, c17_18), (2, c18_19), (3, c19_20), (4, c20_21), (5, c21_22), (6, c22_23), (7, c23_24), (8, c24_25), (9, c25_26)]) w27 (fun t28 w28 =>
 U (S 154 t1 t28) w28 (fun _ w29 =>
 Res Tryz.prog [.cell t1 154, .tmp (V true)] w29 R) X) X))))))))))))
(D (binS J 3 (T 13) (C (I 2)) v0 (I 2)) w15 (fun t30 w30 =>
 Br t30
(D (Instr.build 64 #[(0, (I (-100000))), (1, (I 100000))]) w30 (fun t31 w31 =>
 D (N 64 true (.tuple #[])) w31 (fun t32 w32 =>
 U (S 64 t32 t31) w32 (fun _ w33 =>
 DrawE w33 (fun Rs34 Rb34 w34 =>
 DetOp Rb34 Rs34 w34 (fun w35 K35 => D (L 64 t5) w35 K35 X) (fun c30_35 ψ35 =>
 DetOp Rb34 Rs34 w34 (fun w36 K36 => Q 135 #[] w36 K36 X) (fun c31_36 ψ36 =>
 DetOp Rb34 Rs34 w34 (fun w37 K37 => Q 135 #[] w37 K37 X) (fun c32_37 ψ37 =>
 DetOp Rs34 Rb34 w34 (fun w38 K38 => Q 135 #[] w38 K38 X) (fun c33_38 ψ38 =>
 DetOp Rb34 Rs34 w34 (fun w39 K39 => D (L 64 t32) w39 K39 X) (fun c34_39 ψ39 =>
 DetOp Rb34 Rs34 w34 (fun w40 K40 => D (L 64 t32) w40 K40 X) (fun c35_40 ψ40 =>
 ∀ w41, Rb34 w34 w41 → ((((((True ∧ ψ35 w41) ∧ ψ36 w41) ∧ ψ37 w41) ∧ ψ38 w41) ∧ ψ39 w41) ∧ ψ40 w41) →
 D (Instr.build 154 #[(0, c30_35), (1, c31_36), (2, c32_37), (3, c33_38), (4, c34_39), (5, c35_40)]) w41 (fun t42 w42 =>
 U (S 154 t1 t42) w42 (fun _ w43 =>
 Res Tryz.prog [.cell t1 154, .tmp (V true)] w43 R) X) X)))))))) X) X) X)
(JoinE [37] (fun K44 =>
 D (binS J 3 (T 13) (C (I 3)) v0 (I 3)) w30 (fun t45 w45 =>
 Br t45
(K44 [t45] w45)
(D (binS J 3 (T 13) (C (I 7)) v0 (I 7)) w45 (fun t46 w46 =>
 Br t46
(K44 [t46] w46)
(D (binS J 3 (T 13) (C (I 6)) v0 (I 6)) w46 (fun t47 w47 =>
 K44 [t47] w47) X)) X)) X)
(fun h48 w48 =>
 Br (h48 37)
(DrawE w48 (fun Rs49 Rb49 w49 =>
 DetOp Rb49 Rs49 w49 (fun w50 K50 => D (L 64 t5) w50 K50 X) (fun c41_50 ψ50 =>
 DetOp Rb49 Rs49 w49 (fun w51 K51 => D (L 64 t6) w51 K51 X) (fun c42_51 ψ51 =>
 DetOp Rb49 Rs49 w49 (fun w52 K52 => Q 135 #[] w52 K52 X) (fun c43_52 ψ52 =>
 DetOp Rs49 Rb49 w49 (fun w53 K53 => Q 135 #[] w53 K53 X) (fun c44_53 ψ53 =>
 DetOp Rb49 Rs49 w49 (fun w54 K54 => D (L 64 t12) w54 K54 X) (fun c45_54 ψ54 =>
 DetOp Rb49 Rs49 w49 (fun w55 K55 => D (L 64 t12) w55 K55 X) (fun c46_55 ψ55 =>
 ∀ w56, Rb49 w49 w56 → ((((((True ∧ ψ50 w56) ∧ ψ51 w56) ∧ ψ52 w56) ∧ ψ53 w56) ∧ ψ54 w56) ∧ ψ55 w56) →
 D (Instr.build 154 #[(0, c41_50), (1, c42_51), (2, c43_52), (3, c44_53), (4, c45_54), (5, c46_55)]) w56 (fun t57 w57 =>
 U (S 154 t1 t57) w57 (fun _ w58 =>
 Res Tryz.prog [.cell t1 154, .tmp (V true)] w58 R) X) X))))))))
(D (binS J 3 (T 13) (C (I 4)) v0 (I 4)) w48 (fun t59 w59 =>
 Br t59
(D (L 64 t5) w59 (fun t60 w60 =>
 D (L 64 t6) w60 (fun t61 w61 =>
 D (L 64 t7) w61 (fun t62 w62 =>
 D (Instr.build 64 #[(0, (I 0)), (1, (I 31))]) w62 (fun t63 w63 =>
 D (Instr.build 154 #[(0, t60), (1, t61), (2, t62), (3, t63)]) w63 (fun t64 w64 =>
 U (S 154 t1 t64) w64 (fun _ w65 =>
 Res Tryz.prog [.cell t1 154, .tmp (V true)] w65 R) X) X) X) X) X) X)
(D (binS J 3 (T 13) (C (I 5)) v0 (I 5)) w59 (fun t66 w66 =>
 Br t66
(DrawE w66 (fun Rs67 Rb67 w67 =>
 DetOp Rb67 Rs67 w67 (fun w68 K68 => D (L 64 t5) w68 K68 X) (fun c57_68 ψ68 =>
 DetOp Rb67 Rs67 w67 (fun w69 K69 => D (L 64 t6) w69 K69 X) (fun c58_69 ψ69 =>
 DetOp Rb67 Rs67 w67 (fun w70 K70 => Q 135 #[] w70 K70 X) (fun c59_70 ψ70 =>
 DetOp Rb67 Rs67 w67 (fun w71 K71 => Q 135 #[] w71 K71 X) (fun c60_71 ψ71 =>
 DetOp Rs67 Rb67 w67 (fun w72 K72 => Q 135 #[] w72 K72 X) (fun c61_72 ψ72 =>
 DetOp Rb67 Rs67 w67 (fun w73 K73 => D (L 64 t12) w73 K73 X) (fun c62_73 ψ73 =>
 ∀ w74, Rb67 w67 w74 → ((((((True ∧ ψ68 w74) ∧ ψ69 w74) ∧ ψ70 w74) ∧ ψ71 w74) ∧ ψ72 w74) ∧ ψ73 w74) →
 D (Instr.build 154 #[(0, c57_68), (1, c58_69), (2, c59_70), (3, c60_71), (4, c61_72), (5, c62_73)]) w74 (fun t75 w75 =>
 U (S 154 t1 t75) w75 (fun _ w76 =>
 Res Tryz.prog [.cell t1 154, .tmp (V true)] w76 R) X) X))))))))
(K14 [] w66)) X)) X)))) X)) X)
(fun _ w77 =>
 D (Instr.build 154 #[]) w77 (fun t78 w78 =>
 U (S 154 t1 t78) w78 (fun _ w79 =>
 Res Tryz.prog [.cell t1 154, .tmp (V false)] w79 R) X) X)) X) X) X) X) X) X) X) X) X) X) X) X) X)
theorem sh_report_of_ok (v0 : Value) (h : sh_report_of v0 R w) : Calls Tryz.prog 120 #[v0] w R :=
  calls_of_vc (c := Tryz.f120.body.getD .skip) (args := [v0]) [(5, 10, false, 10), (8, 6, false, 4), (12, 6, false, 4), (16, 6, false, 5)] [] follows_mixed Tryz.func120 rfl (of_decide_eq_true (by kernel_rfl)) (by kernel_rfl) (Eq.mp (by kernel_rfl) h)
def sh_region_invalid (v0 : Value) (R : Ending → World → Prop) (w : World) : Prop := 
(CallF Tryz.prog 139 #[v0, (Value.func (Fn.func 140) #[] #[])] w (fun t1 w1 =>
 R (.returned t1) w1) (Pan R))
theorem sh_region_invalid_ok (v0 : Value) (h : sh_region_invalid v0 R w) : Calls Tryz.prog 123 #[v0] w R :=
  calls_of_vc (c := Tryz.f123.body.getD .skip) (args := [v0]) [] [] follows_mixed Tryz.func123 rfl (of_decide_eq_true (by kernel_rfl)) (by kernel_rfl) (Eq.mp (by kernel_rfl) h)
def sh_landfallref21_in (v0 v1 v2 : Value) (R : Ending → World → Prop) (w : World) : Prop := 
 letI T := Operand.tmp
(DoV Tryz.prog (binS BinOp.geq 3 (T 7) (T 8) v0 v1) w (fun t1 w1 =>
 Gd t1 true (DoV Tryz.prog (binS BinOp.leq 3 (T 11) (T 12) v0 v2) w1 (fun t2 w2 =>
 R (.returned t2) w2) (Pan R))
(R (.returned (Value.bool false)) w1)) (Pan R))
theorem sh_landfallref21_in_ok (v0 v1 v2 : Value) (h : sh_landfallref21_in v0 v1 v2 R w) : Calls Tryz.prog 124 #[v0, v1, v2] w R :=
  calls_of_vc (c := Tryz.f124.body.getD .skip) (args := [v0, v1, v2]) [] [] follows_mixed Tryz.func124 rfl (of_decide_eq_true (by kernel_rfl)) (by kernel_rfl) (Eq.mp (by kernel_rfl) h)
def sh_landfallref21_span (v0 v1 v2 : Value) (R : Ending → World → Prop) (w : World) : Prop := 
 letI X := Pan R
 letI D := DoV Tryz.prog
 letI L := Instr.loadAt
 letI F := Instr.fieldAt
(D (Instr.box 87 v0) w (fun t1 w1 =>
 D (F 87 t1 0) w1 (fun t2 w2 =>
 D (L 3 t2) w2 (fun t3 w3 =>
 D (F 87 t1 1) w3 (fun t4 w4 =>
 D (L 3 t4) w4 (fun t5 w5 =>
 CallF Tryz.prog 124 #[t3, v1, t5] w5 (fun t6 w6 =>
 Gd t6 true (D (F 87 t1 1) w6 (fun t7 w7 =>
 D (L 3 t7) w7 (fun t8 w8 =>
 D (binS BinOp.leq 3 (Operand.tmp 15) (Operand.tmp 16) t8 v2) w8 (fun t9 w9 =>
 R (.returned t9) w9) X) X) X)
(R (.returned (Value.bool false)) w6)) X) X) X) X) X) X)
theorem sh_landfallref21_span_ok (v0 v1 v2 : Value) (h : sh_landfallref21_span v0 v1 v2 R w) : Calls Tryz.prog 125 #[v0, v1, v2] w R :=
  calls_of_vc (c := Tryz.f125.body.getD .skip) (args := [v0, v1, v2]) [] [] follows_mixed Tryz.func125 rfl (of_decide_eq_true (by kernel_rfl)) (by kernel_rfl) (Eq.mp (by kernel_rfl) h)
def sh_cmp_isNaN_int_ (v0 : Value) (R : Ending → World → Prop) (w : World) : Prop := 
(DoV Tryz.prog (binS BinOp.neq 3 (Operand.tmp 3) (Operand.tmp 4) v0 v0) w (fun t1 w1 =>
 R (.returned t1) w1) (Pan R))
theorem sh_cmp_isNaN_int__ok (v0 : Value) (h : sh_cmp_isNaN_int_ v0 R w) : Calls Tryz.prog 127 #[v0] w R :=
  calls_of_vc (c := Tryz.f127.body.getD .skip) (args := [v0]) [] [] follows_mixed Tryz.func127 rfl (of_decide_eq_true (by kernel_rfl)) (by kernel_rfl) (Eq.mp (by kernel_rfl) h)
def sh_report_none (R : Ending → World → Prop) (w : World) : Prop := 
 letI X := Pan R
 letI I := Value.int IntKind.i64
(DoV Tryz.prog (Instr.alloc 64 true (.tuple #[])) w (fun t1 w1 =>
 DoV Tryz.prog (Instr.build 64 #[(0, (I 0)), (1, (I 0))]) w1 (fun t2 w2 =>
 DoU Tryz.prog (Instr.storeAt 64 t1 t2) w2 (fun _ w3 =>
 Res Tryz.prog [.cell t1 64] w3 R) X) X) X)
theorem sh_report_none_ok (h : sh_report_none  R w) : Calls Tryz.prog 135 #[] w R :=
  calls_of_vc (c := Tryz.f135.body.getD .skip) (args := []) [] [] follows_mixed Tryz.func135 rfl (of_decide_eq_true (by kernel_rfl)) (by kernel_rfl) (Eq.mp (by kernel_rfl) h)
def sh_slices_ContainsFunc_____api_Point___api_Point_ (v0 v1 : Value) (R : Ending → World → Prop) (w : World) : Prop := 
 letI I := Value.int IntKind.i64
(CallF Tryz.prog 149 #[v0, v1] w (fun t1 w1 =>
 DoV Tryz.prog (binS BinOp.geq 3 (Operand.tmp 7) (Operand.const (I 0)) t1 (I 0)) w1 (fun t2 w2 =>
 R (.returned t2) w2) (Pan R)) (Pan R))
theorem sh_slices_ContainsFunc_____api_Point___api_Point__ok (v0 v1 : Value) (h : sh_slices_ContainsFunc_____api_Point___api_Point_ v0 v1 R w) : Calls Tryz.prog 139 #[v0, v1] w R :=
  calls_of_vc (c := Tryz.f139.body.getD .skip) (args := [v0, v1]) [] [] follows_mixed Tryz.func139 rfl (of_decide_eq_true (by kernel_rfl)) (by kernel_rfl) (Eq.mp (by kernel_rfl) h)
def sh_region_invalid_1 (v0 : Value) (R : Ending → World → Prop) (w : World) : Prop := 
(CallF Tryz.prog 141 #[v0] w (fun t1 w1 =>
 DoV Tryz.prog (Op.unary UnOp.not t1) w1 (fun t2 w2 =>
 R (.returned t2) w2) (Pan R)) (Pan R))
theorem sh_region_invalid_1_ok (v0 : Value) (h : sh_region_invalid_1 v0 R w) : Calls Tryz.prog 140 #[v0] w R :=
  calls_of_vc (c := Tryz.f140.body.getD .skip) (args := [v0]) [] [] follows_mixed Tryz.func140 rfl (of_decide_eq_true (by kernel_rfl)) (by kernel_rfl) (Eq.mp (by kernel_rfl) h)
def sh_hull_Valid (v0 : Value) (R : Ending → World → Prop) (w : World) : Prop := 
 letI X := Pan R
 letI D := DoV Tryz.prog
 letI U := DoU Tryz.prog
 letI Q := CallF Tryz.prog
 letI B := CallB Tryz.prog
 letI I := Value.int IntKind.i64
 letI T := Operand.tmp
 letI C := Operand.const
 letI L := Instr.loadAt
 letI S := Instr.storeAt
 letI A := Instr.indexAt
 letI N := Instr.alloc
 letI V := Value.bool
 letI M := BinOp.lss
(D (Instr.box 105 v0) w (fun t1 w1 =>
 D (N 4 true (.tuple #[])) w1 (fun t2 w2 =>
 JoinE [] (fun K3 =>
 JoinE [16] (fun K4 =>
 D (L 105 t1) w2 (fun t5 w5 =>
 B Builtin.len #[105] 3 #[false] #[t5] w5 (fun t6 w6 =>
 D (binS M 3 (T 10) (C (I 1)) t6 (I 1)) w6 (fun t7 w7 =>
 Gd t7 false (D (L 105 t1) w7 (fun t8 w8 =>
 B Builtin.len #[105] 3 #[false] #[t8] w8 (fun t9 w9 =>
 D (binS BinOp.gtr 3 (T 14) (C (I 64)) t9 (I 64)) w9 (fun t10 w10 =>
 K4 [t10] w10) X) X) X)
(K4 [(V true)] w7)) X) X) X)
(fun h11 w11 =>
 Br (h11 16)
(U (S 4 t2 (V false)) w11 (fun _ w12 =>
 Res Tryz.prog [.cell t2 4] w12 R) X)
(K3 [] w11)))
(fun _ w13 =>
 D (L 105 t1) w13 (fun t14 w14 =>
 B Builtin.len #[105] 3 #[false] #[t14] w14 (fun t15 w15 =>
 LoopE [19] [(I 0)] w15 (fun h16 w16 K16 =>
 D (binS M 3 (T 19) (T 18) (h16 19) t15) w16 (fun t17 w17 =>
 Br t17
(JoinE [] (fun K18 =>
 D (A 105 t14 (h16 19)) w17 (fun t19 w19 =>
 D (L 104 t19) w19 (fun t20 w20 =>
 D (N 104 true (.tuple #[])) w20 (fun t21 w21 =>
 U (S 104 t21 t20) w21 (fun _ w22 =>
 JoinE [38] (fun K23 =>
 DrawE w22 (fun Rs24 Rb24 w24 =>
 DetOp Rb24 Rs24 w24 (fun w25 K25 => D (L 104 t21) w25 K25 X) (fun c24_25 ψ25 =>
 DetOp Rs24 Rb24 w24 (fun w26 K26 => Q 150 #[c24_25] w26 K26 X) (fun c25_26 ψ26 =>
 DetOp Rb24 Rs24 w24 (fun w27 K27 => D (Op.unary UnOp.not c25_26) w27 K27 X) (fun c26_27 ψ27 =>
 Gd c26_27 false (DetOp Rb24 Rs24 w24 (fun w28 K28 => D (binS BinOp.gtr 3 (T 28) (C (I 0)) (h16 19) (I 0)) w28 K28 X) (fun c29_28 ψ28 =>
 Gd c29_28 true (DetOp Rb24 Rs24 w24 (fun w29 K29 => D (L 105 t1) w29 K29 X) (fun c31_29 ψ29 =>
 DetOp Rb24 Rs24 w24 (fun w30 K30 => D (A 105 c31_29 (I 0)) w30 K30 X) (fun c32_30 ψ30 =>
 DetOp Rb24 Rs24 w24 (fun w31 K31 => D (L 104 c32_30) w31 K31 X) (fun c33_31 ψ31 =>
 DetOp Rb24 Rs24 w24 (fun w32 K32 => D (L 104 t21) w32 K32 X) (fun c34_32 ψ32 =>
 ∀ w33, Rb24 w24 w33 → ((((((((True ∧ ψ25 w33) ∧ ψ26 w33) ∧ ψ27 w33) ∧ ψ28 w33) ∧ ψ29 w33) ∧ ψ30 w33) ∧ ψ31 w33) ∧ ψ32 w33) →
 Q 151 #[c33_31, c34_32] w33 (fun t34 w34 =>
 D (binS BinOp.geq 3 (T 35) (C (I 0)) t34 (I 0)) w34 (fun t35 w35 =>
 K23 [t35] w35) X) X)))))
(∀ w36, Rb24 w24 w36 → ((((True ∧ ψ25 w36) ∧ ψ26 w36) ∧ ψ27 w36) ∧ ψ28 w36) →
 K23 [(V false)] w36)))
(∀ w37, Rb24 w24 w37 → (((True ∧ ψ25 w37) ∧ ψ26 w37) ∧ ψ27 w37) →
 K23 [(V true)] w37))))))
(fun h38 w38 =>
 Br (h38 38)
(U (S 4 t2 (V false)) w38 (fun _ w39 =>
 Res Tryz.prog [.cell t2 4] w39 R) X)
(K18 [] w38))) X) X) X) X)
(fun _ w40 =>
 D (binS BinOp.add 3 (T 19) (C (I 1)) (h16 19) (I 1)) w40 (fun t41 w41 =>
 K16 [t41] w41) X))
(D (L 105 t1) w17 (fun t42 w42 =>
 B Builtin.len #[105] 3 #[false] #[t42] w42 (fun t43 w43 =>
 D (binS M 3 (T 41) (C (I 3)) t43 (I 3)) w43 (fun t44 w44 =>
 Br t44
(U (S 4 t2 (V true)) w44 (fun _ w45 =>
 Res Tryz.prog [.cell t2 4] w45 R) X)
(D (L 105 t1) w44 (fun t46 w46 =>
 Q 152 #[t46] w46 (fun t47 w47 =>
 RangeE Tryz.prog t47 2 w47 (fun D48 xs48 w49 J48 =>
 D (N 104 true (.tuple #[])) w49 (fun t50 w50 =>
 U (S 104 t50 (nth xs48 0)) w50 (fun _ w51 =>
 D (N 104 true (.tuple #[])) w51 (fun t52 w52 =>
 U (S 104 t52 (nth xs48 1)) w52 (fun _ w53 =>
(KeepL D48 w49 w53 ∧ ∀ o54,
 D (L 105 t1) (w53.putObj (D48 + 1) o54) (fun t55 w55 =>
 B Builtin.len #[105] 3 #[false] #[t55] w55 (fun t56 w56 =>
 LoopE [49] [(I 0)] w56 (fun h57 w57 K57 =>
 D (binS M 3 (T 49) (T 48) (h57 49) t56) w57 (fun t58 w58 =>
 Br t58
(JoinE [] (fun K59 =>
 D (A 105 t55 (h57 49)) w58 (fun t60 w60 =>
 D (L 104 t60) w60 (fun t61 w61 =>
 D (N 104 true (.tuple #[])) w61 (fun t62 w62 =>
 U (S 104 t62 t61) w62 (fun _ w63 =>
 JoinE [67] (fun K64 =>
 D (L 104 t62) w63 (fun t65 w65 =>
 D (L 104 t50) w65 (fun t66 w66 =>
 D (binS BinOp.neq 104 (T 53) (T 54) t65 t66) w66 (fun t67 w67 =>
 Gd t67 true (D (L 104 t62) w67 (fun t68 w68 =>
 D (L 104 t52) w68 (fun t69 w69 =>
 D (binS BinOp.neq 104 (T 57) (T 58) t68 t69) w69 (fun t70 w70 =>
 Gd t70 true (D (L 104 t50) w70 (fun t71 w71 =>
 D (L 104 t52) w71 (fun t72 w72 =>
 D (L 104 t62) w72 (fun t73 w73 =>
 Q 153 #[t71, t72, t73] w73 (fun t74 w74 =>
 D (binS BinOp.leq 3 (T 65) (C (I 0)) t74 (I 0)) w74 (fun t75 w75 =>
 K64 [t75] w75) NoX) NoX) NoX) NoX) NoX)
(K64 [(V false)] w70)) NoX) NoX) NoX)
(K64 [(V false)] w67)) NoX) NoX) NoX)
(fun h76 w76 =>
 Br (h76 67)
(U (S 4 t2 (V false)) w76 (fun _ w77 =>
(KeepL D48 (w53.putObj (D48 + 1) o54) w77 ∧ ∀ o78, J48 .ret (w77.putObj (D48 + 1) o78))) NoX)
(K59 [] w76))) NoX) NoX) NoX) NoX)
(fun _ w79 =>
 D (binS BinOp.add 3 (T 49) (C (I 1)) (h57 49) (I 1)) w79 (fun t80 w80 =>
 K57 [t80] w80) NoX))
((KeepL D48 (w53.putObj (D48 + 1) o54) w58 ∧ ∀ o81, J48 .normal (w58.putObj (D48 + 1) o81)))) NoX)) NoX) NoX)) NoX) NoX) NoX) NoX)
(fun D82 w83 =>
 U (S 4 t2 (V true)) w83 (fun _ w84 =>
 MarkE D82 w84 (fun w85 => Res Tryz.prog [.cell t2 4] w85 R)) NoX)
(fun D86 w87 =>
 MarkE D86 w87 (fun w88 => Res Tryz.prog [.cell t2 4] w88 R))
[]) X) X)) X) X) X)) X)) X) X)) X) X)
theorem sh_hull_Valid_ok (v0 : Value) (h : sh_hull_Valid v0 R w) : Calls Tryz.prog 141 #[v0] w R :=
  calls_of_vcM (c := Tryz.f141.body.getD .skip) (args := [v0]) [(6, 11, false, 2)] [19, 49] follows_mixed Tryz.func141 rfl (of_decide_eq_true (by kernel_rfl)) (by kernel_rfl) (Eq.mp (by kernel_rfl) h)
def sh_slices_IndexFunc_____api_Point___api_Point_ (v0 v1 : Value) (R : Ending → World → Prop) (w : World) : Prop := 
 letI X := Pan R
 letI D := DoV Tryz.prog
 letI I := Value.int IntKind.i64
 letI T := Operand.tmp
(CallB Tryz.prog Builtin.len #[50] 3 #[false] #[v0] w (fun t1 w1 =>
 LoopE [8] [(I 0)] w1 (fun h2 w2 K2 =>
 D (binS BinOp.lss 3 (T 8) (T 7) (h2 8) t1) w2 (fun t3 w3 =>
 Br t3
(D (Instr.indexAt 50 v0 (h2 8)) w3 (fun t4 w4 =>
 D (Instr.loadAt 105 t4) w4 (fun t5 w5 =>
 CallV Tryz.prog v1 #[t5] w5 (fun t6 w6 =>
 Br t6
(R (.returned (h2 8)) w6)
(D (binS BinOp.add 3 (T 8) (Operand.const (I 1)) (h2 8) (I 1)) w6 (fun t7 w7 =>
 K2 [t7] w7) X)) X) X) X)
(R (.returned (I (-1))) w3)) X)) X)
theorem sh_slices_IndexFunc_____api_Point___api_Point__ok (v0 v1 : Value) (h : sh_slices_IndexFunc_____api_Point___api_Point_ v0 v1 R w) : Calls Tryz.prog 149 #[v0, v1] w R :=
  calls_of_vc (c := Tryz.f149.body.getD .skip) (args := [v0, v1]) [] [8] follows_mixed Tryz.func149 rfl (of_decide_eq_true (by kernel_rfl)) (by kernel_rfl) (Eq.mp (by kernel_rfl) h)
def sh_hull_isPlace (v0 : Value) (R : Ending → World → Prop) (w : World) : Prop := 
 letI X := Pan R
 letI D := DoV Tryz.prog
 letI B := CallB Tryz.prog
 letI I := Value.int IntKind.i64
 letI L := Instr.loadAt
 letI F := Instr.fieldAt
(D (Instr.box 104 v0) w (fun t1 w1 =>
 D (F 104 t1 0) w1 (fun t2 w2 =>
 D (L 3 t2) w2 (fun t3 w3 =>
 D (F 104 t1 0) w3 (fun t4 w4 =>
 D (L 3 t4) w4 (fun t5 w5 =>
 D (Op.unary UnOp.neg t5) w5 (fun t6 w6 =>
 D (F 104 t1 1) w6 (fun t7 w7 =>
 D (L 3 t7) w7 (fun t8 w8 =>
 D (F 104 t1 1) w8 (fun t9 w9 =>
 D (L 3 t9) w9 (fun t10 w10 =>
 D (Op.unary UnOp.neg t10) w10 (fun t11 w11 =>
 B Builtin.max #[3, 3, 3, 3] 3 #[false, false, false, false] #[t3, t6, t8, t11] w11 (fun t12 w12 =>
 D (binS BinOp.leq 3 (Operand.tmp 13) (Operand.const (I 500000)) t12 (I 500000)) w12 (fun t13 w13 =>
 Gd t13 true (D (F 104 t1 0) w13 (fun t14 w14 =>
 D (L 3 t14) w14 (fun t15 w15 =>
 D (F 104 t1 1) w15 (fun t16 w16 =>
 D (L 3 t16) w16 (fun t17 w17 =>
 B Builtin.min #[3, 3] 3 #[false, false] #[t15, t17] w17 (fun t18 w18 =>
 D (binS BinOp.geq 3 (Operand.tmp 20) (Operand.const (I (-500000))) t18 (I (-500000))) w18 (fun t19 w19 =>
 R (.returned t19) w19) X) X) X) X) X) X)
(R (.returned (Value.bool false)) w13)) X) X) X) X) X) X) X) X) X) X) X) X) X)
theorem sh_hull_isPlace_ok (v0 : Value) (h : sh_hull_isPlace v0 R w) : Calls Tryz.prog 150 #[v0] w R :=
  calls_of_vc (c := Tryz.f150.body.getD .skip) (args := [v0]) [] [] follows_mixed Tryz.func150 rfl (of_decide_eq_true (by kernel_rfl)) (by kernel_rfl) (Eq.mp (by kernel_rfl) h)
def sh_hull_compare (v0 v1 : Value) (R : Ending → World → Prop) (w : World) : Prop := 
 letI X := Pan R
 letI D := DoV Tryz.prog
 letI Q := CallF Tryz.prog
 letI L := Instr.loadAt
 letI F := Instr.fieldAt
(D (Instr.box 104 v0) w (fun t1 w1 =>
 D (Instr.box 104 v1) w1 (fun t2 w2 =>
 DrawE w2 (fun Rs3 Rb3 w3 =>
 DetOp Rb3 Rs3 w3 (fun w4 K4 => D (F 104 t1 0) w4 K4 X) (fun c5_4 ψ4 =>
 DetOp Rb3 Rs3 w3 (fun w5 K5 => D (L 3 c5_4) w5 K5 X) (fun c6_5 ψ5 =>
 DetOp Rb3 Rs3 w3 (fun w6 K6 => D (F 104 t2 0) w6 K6 X) (fun c7_6 ψ6 =>
 DetOp Rb3 Rs3 w3 (fun w7 K7 => D (L 3 c7_6) w7 K7 X) (fun c8_7 ψ7 =>
 DetOp Rs3 Rb3 w3 (fun w8 K8 => Q 104 #[c6_5, c8_7] w8 K8 X) (fun c9_8 ψ8 =>
 DetOp Rb3 Rs3 w3 (fun w9 K9 => D (F 104 t1 1) w9 K9 X) (fun c10_9 ψ9 =>
 DetOp Rb3 Rs3 w3 (fun w10 K10 => D (L 3 c10_9) w10 K10 X) (fun c11_10 ψ10 =>
 DetOp Rb3 Rs3 w3 (fun w11 K11 => D (F 104 t2 1) w11 K11 X) (fun c12_11 ψ11 =>
 DetOp Rb3 Rs3 w3 (fun w12 K12 => D (L 3 c12_11) w12 K12 X) (fun c13_12 ψ12 =>
 ∀ w13, Rb3 w3 w13 → (((((((((True ∧ ψ4 w13) ∧ ψ5 w13) ∧ ψ6 w13) ∧ ψ7 w13) ∧ ψ8 w13) ∧ ψ9 w13) ∧ ψ10 w13) ∧ ψ11 w13) ∧ ψ12 w13) →
 Q 104 #[c11_10, c13_12] w13 (fun t14 w14 =>
 D (Instr.buildSlice 91 2 #[(0, c9_8), (1, t14)]) w14 (fun t15 w15 =>
 Q 158 #[t15] w15 (fun t16 w16 =>
 R (.returned t16) w16) X) X) X))))))))))) X) X)
theorem sh_hull_compare_ok (v0 v1 : Value) (h : sh_hull_compare v0 v1 R w) : Calls Tryz.prog 151 #[v0, v1] w R :=
  calls_of_vc (c := Tryz.f151.body.getD .skip) (args := [v0, v1]) [(1, 9, false, 5)] [] follows_mixed Tryz.func151 rfl (of_decide_eq_true (by kernel_rfl)) (by kernel_rfl) (Eq.mp (by kernel_rfl) h)
def sh_hull_sides (v0 : Value) (R : Ending → World → Prop) (w : World) : Prop := 
(DoV Tryz.prog (Instr.box 105 v0) w (fun t1 w1 =>
 DoV Tryz.prog (Instr.makeFunc (Fn.func 159) #[] #[t1]) w1 (fun t2 w2 =>
 R (.returned t2) w2) (Pan R)) (Pan R))
theorem sh_hull_sides_ok (v0 : Value) (h : sh_hull_sides v0 R w) : Calls Tryz.prog 152 #[v0] w R :=
  calls_of_vc (c := Tryz.f152.body.getD .skip) (args := [v0]) [] [] follows_mixed Tryz.func152 rfl (of_decide_eq_true (by kernel_rfl)) (by kernel_rfl) (Eq.mp (by kernel_rfl) h)
def sh_hull_turn (v0 v1 v2 : Value) (R : Ending → World → Prop) (w : World) : Prop := 
 letI X := Pan R
 letI D := DoV Tryz.prog
 letI T := Operand.tmp
 letI L := Instr.loadAt
 letI F := Instr.fieldAt
(D (Instr.box 104 v0) w (fun t1 w1 =>
 D (Instr.box 104 v1) w1 (fun t2 w2 =>
 D (Instr.box 104 v2) w2 (fun t3 w3 =>
 D (F 104 t2 0) w3 (fun t4 w4 =>
 D (L 3 t4) w4 (fun t5 w5 =>
 D (F 104 t1 0) w5 (fun t6 w6 =>
 D (L 3 t6) w6 (fun t7 w7 =>
 D (binS BinOp.sub 3 (T 8) (T 10) t5 t7) w7 (fun t8 w8 =>
 D (F 104 t3 1) w8 (fun t9 w9 =>
 D (L 3 t9) w9 (fun t10 w10 =>
 D (F 104 t1 1) w10 (fun t11 w11 =>
 D (L 3 t11) w11 (fun t12 w12 =>
 D (binS BinOp.sub 3 (T 13) (T 15) t10 t12) w12 (fun t13 w13 =>
 D (binS BinOp.mul 3 (T 11) (T 16) t8 t13) w13 (fun t14 w14 =>
 D (F 104 t2 1) w14 (fun t15 w15 =>
 D (L 3 t15) w15 (fun t16 w16 =>
 D (F 104 t1 1) w16 (fun t17 w17 =>
 D (L 3 t17) w17 (fun t18 w18 =>
 D (binS BinOp.sub 3 (T 19) (T 21) t16 t18) w18 (fun t19 w19 =>
 D (F 104 t3 0) w19 (fun t20 w20 =>
 D (L 3 t20) w20 (fun t21 w21 =>
 D (F 104 t1 0) w21 (fun t22 w22 =>
 D (L 3 t22) w22 (fun t23 w23 =>
 D (binS BinOp.sub 3 (T 24) (T 26) t21 t23) w23 (fun t24 w24 =>
 D (binS BinOp.mul 3 (T 22) (T 27) t19 t24) w24 (fun t25 w25 =>
 D (binS BinOp.sub 3 (T 17) (T 28) t14 t25) w25 (fun t26 w26 =>
 R (.returned t26) w26) X) X) X) X) X) X) X) X) X) X) X) X) X) X) X) X) X) X) X) X) X) X) X) X) X) X)
theorem sh_hull_turn_ok (v0 v1 v2 : Value) (h : sh_hull_turn v0 v1 v2 R w) : Calls Tryz.prog 153 #[v0, v1, v2] w R :=
  calls_of_vc (c := Tryz.f153.body.getD .skip) (args := [v0, v1, v2]) [] [] follows_mixed Tryz.func153 rfl (of_decide_eq_true (by kernel_rfl)) (by kernel_rfl) (Eq.mp (by kernel_rfl) h)
def sh_cmp_Or_int_ (v0 : Value) (R : Ending → World → Prop) (w : World) : Prop := 
 letI X := Pan R
 letI D := DoV Tryz.prog
 letI I := Value.int IntKind.i64
 letI T := Operand.tmp
(CallB Tryz.prog Builtin.len #[91] 3 #[false] #[v0] w (fun t1 w1 =>
 LoopE [8] [(I 0)] w1 (fun h2 w2 K2 =>
 D (binS BinOp.lss 3 (T 8) (T 7) (h2 8) t1) w2 (fun t3 w3 =>
 Br t3
(D (Instr.indexAt 91 v0 (h2 8)) w3 (fun t4 w4 =>
 D (Instr.loadAt 3 t4) w4 (fun t5 w5 =>
 D (binS BinOp.neq 3 (T 12) (T 13) t5 (I 0)) w5 (fun t6 w6 =>
 Br t6
(R (.returned t5) w6)
(D (binS BinOp.add 3 (T 8) (Operand.const (I 1)) (h2 8) (I 1)) w6 (fun t7 w7 =>
 K2 [t7] w7) X)) X) X) X)
(R (.returned (I 0)) w3)) X)) X)
theorem sh_cmp_Or_int__ok (v0 : Value) (h : sh_cmp_Or_int_ v0 R w) : Calls Tryz.prog 158 #[v0] w R :=
  calls_of_vc (c := Tryz.f158.body.getD .skip) (args := [v0]) [] [8] follows_mixed Tryz.func158 rfl (of_decide_eq_true (by kernel_rfl)) (by kernel_rfl) (Eq.mp (by kernel_rfl) h)
def sh_hull_sides_1 (v0 v1 : Value) (R : Ending → World → Prop) (w : World) : Prop := 
 letI X := Pan R
 letI D := DoV Tryz.prog
 letI B := CallB Tryz.prog
 letI I := Value.int IntKind.i64
 letI T := Operand.tmp
 letI L := Instr.loadAt
(D (L 105 v1) w (fun t1 w1 =>
 B Builtin.len #[105] 3 #[false] #[t1] w1 (fun t2 w2 =>
 LoopE [7] [(I 0)] w2 (fun h3 w3 K3 =>
 D (binS BinOp.lss 3 (T 7) (T 6) (h3 7) t2) w3 (fun t4 w4 =>
 Br t4
(D (Instr.indexAt 105 t1 (h3 7)) w4 (fun t5 w5 =>
 D (L 104 t5) w5 (fun t6 w6 =>
 D (Instr.alloc 104 true (.tuple #[])) w6 (fun t7 w7 =>
 DoU Tryz.prog (Instr.storeAt 104 t7 t6) w7 (fun _ w8 =>
 DrawE w8 (fun Rs9 Rb9 w9 =>
 DetOp Rb9 Rs9 w9 (fun w10 K10 => D (L 104 t7) w10 K10 X) (fun c13_10 ψ10 =>
 DetOp Rb9 Rs9 w9 (fun w11 K11 => D (L 105 v1) w11 K11 X) (fun c14_11 ψ11 =>
 DetOp Rb9 Rs9 w9 (fun w12 K12 => D (binS BinOp.add 3 (T 15) (Operand.const (I 1)) (h3 7) (I 1)) w12 K12 X) (fun c16_12 ψ12 =>
 DetOp Rb9 Rs9 w9 (fun w13 K13 => D (L 105 v1) w13 K13 X) (fun c17_13 ψ13 =>
 DetOp Rb9 Rs9 w9 (fun w14 K14 => B Builtin.len #[105] 3 #[false] #[c17_13] w14 K14 X) (fun c18_14 ψ14 =>
 DetOp Rb9 Rs9 w9 (fun w15 K15 => D (binS BinOp.rem 3 (T 16) (T 18) c16_12 c18_14) w15 K15 X) (fun c19_15 ψ15 =>
 DetOp Rb9 Rs9 w9 (fun w16 K16 => D (Instr.indexAt 105 c14_11 c19_15) w16 K16 X) (fun c20_16 ψ16 =>
 DetOp Rb9 Rs9 w9 (fun w17 K17 => D (L 104 c20_16) w17 K17 X) (fun c21_17 ψ17 =>
 ∀ w18, Rb9 w9 w18 → ((((((((True ∧ ψ10 w18) ∧ ψ11 w18) ∧ ψ12 w18) ∧ ψ13 w18) ∧ ψ14 w18) ∧ ψ15 w18) ∧ ψ16 w18) ∧ ψ17 w18) →
 CallV Tryz.prog v0 #[c13_10, c21_17] w18 (fun t19 w19 =>
 D (Op.unary UnOp.not t19) w19 (fun t20 w20 =>
 Br t20
(R (.returned (Value.tuple #[])) w20)
(D (binS BinOp.add 3 (T 7) (Operand.const (I 1)) (h3 7) (I 1)) w20 (fun t21 w21 =>
 K3 [t21] w21) X)) X) X)))))))))) X) X) X) X)
(R (.returned (Value.tuple #[])) w4)) X)) X) X)
theorem sh_hull_sides_1_ok (v0 v1 : Value) (h : sh_hull_sides_1 v0 v1 R w) : Calls Tryz.prog 159 #[v0, v1] w R :=
  calls_of_vc (c := Tryz.f159.body.getD .skip) (args := [v0, v1]) [(3, 10, false, 0)] [7] follows_mixed Tryz.func159 rfl (of_decide_eq_true (by kernel_rfl)) (by kernel_rfl) (Eq.mp (by kernel_rfl) h)
end Go.Proofs.YtohmledhhgdgaaaGreatDoor
