/- chart.Square. -/
import Derived.Test.YtdfpdfahcbflpabDoorHChbB
set_option linter.unusedVariables false
set_option linter.unusedSimpArgs false
namespace Go.Proofs.YtdfpdfahcbflpabDoor
set_option maxRecDepth 100000
set_option maxHeartbeats 16000000
open Sh Go.RowKit
def Keep1 (b : Nat) (o : Obj) (a c : World) : Prop := Mod (· = b) a c ∧ (At a b o → At c b o)
theorem Keep1.refl (b : Nat) (o : Obj) (a : World) : Keep1 b o a a := ⟨Mod.refl _ _, id⟩
theorem Keep1.trans {b : Nat} {o : Obj} {a c d : World} (h : Keep1 b o a c) (h' : Keep1 b o c d) : Keep1 b o a d := ⟨h.1.trans h'.1, fun x => h'.2 (h.2 x)⟩
theorem draw_keep {w : World} {body : (World → World → Prop) → (World → World → Prop) → World → Prop} (b : Nat) (o : Obj) (h : ∀ w0, Ext w w0 → w0.heap.size = w.heap.size → body (Keep1 b o) (Keep1 b o) w0) : DrawE w body :=
  ⟨_, _, ⟨fun a => Keep1.refl b o a, fun _ _ _ => Keep1.trans, fun _ _ h => h, fun _ _ _ => Keep1.trans⟩, h w.drew (Ext.drew w) rfl⟩
theorem det_keep {b : Nat} {o : Obj} {w0 : World} {op : World → (Value → World → Prop) → Prop} {rest : Value → (World → Prop) → Prop} (c : Value) (h : ∀ w1, Keep1 b o w0 w1 → ∀ K : Value → World → Prop, op w1 K = K c w1) (hk : rest c fun _ => True) : DetOp (Keep1 b o) (Keep1 b o) w0 op rest :=
  det_pure c (fun a => Keep1.refl b o a) (fun w1 h1 K hk => by rw [h w1 h1 K]; exact hk) hk
theorem det_same {b : Nat} {p : SPoint} {w0 : World} {X : List PanicEntry → World → Prop} {rest : Value → (World → Prop) → Prop} (h0 : At w0 b (.cells p.cells.toArray 31 (0, 0))) (hk : rest undef fun _ => True) :
    DetOp (Keep1 b (.cells p.cells.toArray 31 (0, 0))) (Keep1 b (.cells p.cells.toArray 31 (0, 0))) w0 (fun w1 K => DoU Tryd.prog (Instr.storeAt 31 (.pointer (some ⟨b, 0, none⟩)) (.agg p.cells.toArray)) w1 K X) rest :=
  ⟨undef, fun _ => True, fun _ _ _ _ => trivial, fun w1 h1 => SPoint.set (r := p) (h1.2 h0) fun w2 m2 hat2 _ => ⟨rfl, ⟨m2, fun _ => hat2⟩, trivial⟩, hk⟩
theorem pt_var {w : World} {b : Nat} {p : SPoint} (h : At w b (.cells p.cells.toArray 31 (0, 0))) : (loadVar 31 ⟨b, 0, none⟩).run Tryd.prog w = .ok (.agg p.cells.toArray) w := loadVar_agg Ty.SPoint_agg Ty.SPoint_size (xs := p.cells) rfl (has_of_at h)
namespace Cha
def lowC (C : Cht) (i : Int) : SPoint := ⟨C.x + i % C.w * C.size, C.y + i / C.w * C.size⟩
def highC (C : Cht) (i : Int) : SPoint := ⟨(lowC C i).x + C.size - 1, (lowC C i).y + C.size - 1⟩
def inC (C : Cht) (i : Int) : Prop := GoodC C ∧ 0 ≤ i ∧ i < C.cells.length
open Classical in
noncomputable def squareV (C : Cht) (i : Int) : SPoint × SPoint × Int := if inC C i then (lowC C i, highC C i, 0) else (⟨0, 0⟩, ⟨0, 0⟩, 1)
theorem low_bnd {C : Cht} {i : Int} (h : inC C i) : 0 ≤ i % C.w ∧ i % C.w < C.w ∧ 0 ≤ i / C.w ∧ i / C.w < C.h ∧ (0 ≤ i % C.w * C.size ∧ i % C.w * C.size ≤ 4000 * 10000) ∧ (0 ≤ i / C.w * C.size ∧ i / C.w * C.size ≤ 4000 * 10000) := by
  obtain ⟨⟨hF, _⟩, h0, h1⟩ := h
  obtain ⟨_, hw, hh, hz, hwh, hmax, _⟩ := hF
  have a1 := Int.emod_nonneg i (show C.w ≠ 0 by omega)
  have a2 := Int.emod_lt_of_pos i (show 0 < C.w by omega)
  have a3 : 0 ≤ i / C.w := Int.ediv_nonneg h0 (by omega)
  have a4 : i / C.w < C.h := Int.ediv_lt_of_lt_mul (by omega) (by rw [Int.mul_comm]; omega)
  refine ⟨a1, a2, a3, a4, ⟨Int.mul_nonneg a1 (by omega), Int.mul_le_mul (by omega) hz.2 (by omega) (by omega)⟩, ⟨Int.mul_nonneg a3 (by omega), Int.mul_le_mul (by omega) hz.2 (by omega) (by omega)⟩⟩
end Cha
open Cha in
theorem chSquare_ret {s : SChart} {C : Cht} {i : Int} (w : World) (hc : ChartIs w s C) (hok : ChartOk C) (hi : I64 i) : Ret Tryd.prog 19 #[.agg s.cells.toArray, .int .i64 i] w fun r w' => r = .tuple #[.agg (squareV C i).1.cells.toArray, .agg (squareV C i).2.1.cells.toArray, .int .i64 (squareV C i).2.2] ∧ Ext w w' := by
  refine ret_of (fun _ _ => sh_chart_Square_ok _ _) fun R hR => ?_
  unfold sh_chart_Square
  refine box_i fun g w1 x1 hat1 hg1 _ => ?_
  refine alloc_i Ty.SPoint_zero fun b4 w2 x2 hat4 hb4 _ => ?_
  refine alloc_i Ty.SPoint_zero fun b5 w3 x3 hat5 hb5 _ => ?_
  have x13 := x2.trans x3
  have x03 := x1.trans x13
  have a1 := hat1.ext x13
  have hat4 : At w2 b4 (.cells SPoint.zero.cells.toArray 31 (0, 0)) := hat4
  have hat5 : At w3 b5 (.cells SPoint.zero.cells.toArray 31 (0, 0)) := hat5
  have a4 := hat4.ext x3
  have l1 := hat1.lt
  have l4 := hat4.lt
  have l5 := hat5.lt
  have z1 := x1.size
  have z2 := x2.size
  have z3 := x3.size
  have fin : ∀ (W : World) (lo hi : SPoint) (e : Int), Mod (w.heap.size ≤ ·) w W → At W b4 (.cells lo.cells.toArray 31 (0, 0)) → At W b5 (.cells hi.cells.toArray 31 (0, 0)) → squareV C i = (lo, hi, e) →
      Res Tryd.prog [.cell (.pointer (some ⟨b4, 0, none⟩)) 31, .cell (.pointer (some ⟨b5, 0, none⟩)) 31, .tmp (.int .i64 e)] W R := fun W lo hi e m h4 h5 he =>
    res_i (rv_cell (pt_var h4) (rv_cell (pt_var h5) (rv_tmp (rv_nil _)))) (hR _ _ ⟨by rw [he]; rfl, m.new⟩)
  refine join0 (fun W => Ext w3 W ∧ inC C i) ?_ fun K hK => ?_
  · rintro _ W ⟨xW, hin⟩
    obtain ⟨c1, c2, c3, c4, c5, c6⟩ := low_bnd hin
    obtain ⟨⟨hF, _⟩, h0, h1⟩ := id hin
    obtain ⟨_, hw, hh, hz, hwh, hmax, hp0, _⟩ := hF
    have p0 := Hul.place_iff.1 hp0
    simp only at p0
    have ag := a1.ext xW
    refine draw_ext fun w4 x4 => ?_
    have g0 : ∀ V, Ext w4 V → Has V g 0 s.cells := fun V x => has_of_at ((ag.ext x4).ext x)
    refine det_read _ (fun V x K => Ty.SChart_f1) ?_
    refine det_read (.int .i64 C.x) (fun V x K => by rw [← hc.x]; exact load_cell Ty.int_agg (has_at (g0 V x) (d := 1) rfl rfl)) ?_
    refine det_read _ (fun V x K => Ty.SChart_f3) ?_
    refine det_read (.int .i64 C.w) (fun V x K => by rw [← hc.w]; exact load_cell Ty.int_agg (has_at (g0 V x) (d := 3) rfl rfl)) ?_
    refine det_read (.int .i64 (i % C.w)) (fun V x K => by rw [bin_rem (by omega), Int.tmod_eq_emod_of_nonneg h0]) ?_
    refine det_read _ (fun V x K => Ty.SChart_f5) ?_
    refine det_read (.int .i64 C.size) (fun V x K => by rw [← hc.size]; exact load_cell Ty.int_agg (has_at (g0 V x) (d := 5) rfl rfl)) ?_
    refine det_read (.int .i64 (i % C.w * C.size)) (fun V x K => by rw [bin_mul, i64_wrap (by omega) (by omega)]) ?_
    refine det_read (.int .i64 (C.x + i % C.w * C.size)) (fun V x K => by rw [bin_add, i64_wrap (by omega) (by omega)]) ?_
    refine det_read _ (fun V x K => Ty.SChart_f2) ?_
    refine det_read (.int .i64 C.y) (fun V x K => by rw [← hc.y]; exact load_cell Ty.int_agg (has_at (g0 V x) (d := 2) rfl rfl)) ?_
    refine det_read _ (fun V x K => Ty.SChart_f3) ?_
    refine det_read (.int .i64 C.w) (fun V x K => by rw [← hc.w]; exact load_cell Ty.int_agg (has_at (g0 V x) (d := 3) rfl rfl)) ?_
    refine det_read (.int .i64 (i / C.w)) (fun V x K => by rw [bin_quo (by omega), Int.tdiv_eq_ediv_of_nonneg h0, i64_wrap (by omega) (by omega)]) ?_
    refine det_read _ (fun V x K => Ty.SChart_f5) ?_
    refine det_read (.int .i64 C.size) (fun V x K => by rw [← hc.size]; exact load_cell Ty.int_agg (has_at (g0 V x) (d := 5) rfl rfl)) ?_
    refine det_read (.int .i64 (i / C.w * C.size)) (fun V x K => by rw [bin_mul, i64_wrap (by omega) (by omega)]) ?_
    refine det_read (.int .i64 (C.y + i / C.w * C.size)) (fun V x K => by rw [bin_add, i64_wrap (by omega) (by omega)]) ?_
    intro w5 x5 _
    have x35 := (xW.trans x4).trans x5
    have z5 := x35.size
    rw [build_i (new_pt15 _ _)]
    refine SPoint.set (s := lowC C i) (r := SPoint.zero) (a4.ext x35) fun w6 m6 h4 s6 => ?_
    have ag6 := (a1.ext x35).mod m6 (by omega)
    have h5 := (hat5.ext x35).mod m6 (by omega)
    refine draw_keep b4 (.cells (lowC C i).cells.toArray 31 (0, 0)) fun w7 x7 s7 => ?_
    have h4' := h4.ext x7
    have k0 : ∀ V, Keep1 b4 (.cells (lowC C i).cells.toArray 31 (0, 0)) w7 V → Has V g 0 s.cells := fun V k => has_of_at ((ag6.ext x7).mod k.1 (by omega))
    have k4 : ∀ V, Keep1 b4 (.cells (lowC C i).cells.toArray 31 (0, 0)) w7 V → Has V b4 0 (lowC C i).cells := fun V k => has_of_at (k.2 h4')
    have lx : (lowC C i).x = C.x + i % C.w * C.size := rfl
    have ly : (lowC C i).y = C.y + i / C.w * C.size := rfl
    refine det_keep _ (fun V x K => SPoint.g_all (k4 V x)) ?_
    refine det_keep _ (fun V x K => Ty.SPoint_f0) ?_
    refine det_keep (.int .i64 (lowC C i).x) (fun V x K => load_cell Ty.int_agg (has_at (k4 V x) (d := 0) rfl rfl)) ?_
    refine det_keep _ (fun V x K => Ty.SChart_f5) ?_
    refine det_keep (.int .i64 C.size) (fun V x K => by rw [← hc.size]; exact load_cell Ty.int_agg (has_at (k0 V x) (d := 5) rfl rfl)) ?_
    refine det_keep (.int .i64 ((lowC C i).x + C.size)) (fun V x K => by rw [bin_add, i64_wrap (by omega) (by omega)]) ?_
    refine det_keep (.int .i64 ((lowC C i).x + C.size - 1)) (fun V x K => by rw [bin_sub, i64_wrap (by omega) (by omega)]) ?_
    refine det_keep _ (fun V x K => Ty.SPoint_f1) ?_
    refine det_keep (.int .i64 (lowC C i).y) (fun V x K => load_cell Ty.int_agg (has_at (k4 V x) (d := 1) rfl rfl)) ?_
    refine det_keep _ (fun V x K => Ty.SChart_f5) ?_
    refine det_keep (.int .i64 C.size) (fun V x K => by rw [← hc.size]; exact load_cell Ty.int_agg (has_at (k0 V x) (d := 5) rfl rfl)) ?_
    refine det_keep (.int .i64 ((lowC C i).y + C.size)) (fun V x K => by rw [bin_add, i64_wrap (by omega) (by omega)]) ?_
    refine det_keep (.int .i64 ((lowC C i).y + C.size - 1)) (fun V x K => by rw [bin_sub, i64_wrap (by omega) (by omega)]) ?_
    refine det_keep (.agg (highC C i).cells.toArray) (fun V x K => by rw [build_i (new_pt15 _ _)]; rfl) ?_
    refine det_same h4' ?_
    intro w8 k8 _
    have h48 := k8.2 h4'
    have h58 := (h5.ext x7).mod k8.1 (by omega)
    refine SPoint.set (s := highC C i) (r := SPoint.zero) h58 fun w9 m9 h59 s9 => ?_
    refine fin w9 (lowC C i) (highC C i) 0 ?_ (h48.mod m9 (by omega)) h59 (by unfold squareV; rw [if_pos hin])
    have y1 : Mod (w.heap.size ≤ ·) w w6 := (Mod.of_ext (x03.trans x35)).trans (m6.mono fun k _ h => by omega)
    exact ((y1.trans (.of_ext x7)).trans (k8.1.mono fun k _ h => by omega)).trans (m9.mono fun k _ h => by omega)
  · refine join1 (fun y V => ∃ t, y = .bool t ∧ Ext w3 V ∧ (t = true → ¬ inC C i) ∧ (t = false → inC C i)) ?_ fun K3 hK3 => ?_
    · rintro h2 _ V hx2 ⟨t, rfl, xV, ht, hf⟩
      rw [hx2]
      refine Br_i (fun hb => ?_) fun hb => hK _ ⟨xV, hf hb⟩
      refine draw_keep b4 (.cells SPoint.zero.cells.toArray 31 (0, 0)) fun w7 x7 s7 => ?_
      have h4' := (a4.ext xV).ext x7
      have h5' := (hat5.ext xV).ext x7
      refine det_keep _ (fun V x K => SPoint.g_all (s := SPoint.zero) (has_of_at (x.2 h4'))) ?_
      refine det_keep _ (fun V x K => SPoint.g_all (s := SPoint.zero) (has_of_at (h5'.mod x.1 (by omega)))) ?_
      refine det_same h4' ?_
      intro w8 k8 _
      refine SPoint.set (s := SPoint.zero) (r := SPoint.zero) (h5'.mod k8.1 (by omega)) fun w9 m9 h59 s9 => ?_
      refine fin w9 SPoint.zero SPoint.zero 1 ?_ ((k8.2 h4').mod m9 (by omega)) h59 (by unfold squareV; rw [if_neg (ht hb)]; rfl)
      exact ((Mod.of_ext ((x03.trans xV).trans x7) : Mod (w.heap.size ≤ ·) w w7).trans (k8.1.mono fun k _ h => by omega)).trans (m9.mono fun k _ h => by omega)
    have bad : ∀ V, Ext w3 V → ¬ inC C i → K3 [.bool true] V := fun V xV hn => hK3 _ _ ⟨true, rfl, xV, fun _ => hn, fun ht => by cases ht⟩
    rw [SChart.g_all (has_of_at a1)]
    refine callF_ret (chValid_ret w3 (hc.ext x03) hok) ?_
    rintro _ w6 ⟨rfl, x6⟩
    rw [un_not]
    refine Gd_i (fun b1 => ?_) fun hb => bad _ x6 fun hn => (by have := nf hb; rw [valid_iff.2 hn.1] at this; cases this)
    rw [bin_lss]
    refine Gd_i (fun b2 => ?_) fun hb => bad _ x6 fun hn => (by have := dec_t hb; have := hn.2.1; omega)
    rw [SChart.g_cs (has_of_at (a1.ext x6)), SCell.row_len (Sl.ext hc.cells (x03.trans x6)), bin_geq]
    refine hK3 _ _ ⟨_, rfl, x6, fun ht hn => (by have := of_decide_eq_true ht; have := hn.2.2; omega), fun ht => ⟨valid_iff.1 (nd b1), ?_, ?_⟩⟩
    · have := dec_f b2; omega
    · have := of_decide_eq_false ht; omega
end Go.Proofs.YtdfpdfahcbflpabDoor
