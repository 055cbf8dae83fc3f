/- The reference's At, Square, Touched, Beacon, Line, Digest. -/
import Derived.Test.YtnbcdaonkdffkaaGreatDoorFChbT
set_option linter.unusedVariables false
set_option linter.unusedSimpArgs false
namespace Go.Proofs.YtnbcdaonkdffkaaGreatDoor
set_option maxRecDepth 100000
set_option maxHeartbeats 16000000
open Sh Go.RowKit
def Turn2 (b : Nat) (S S' : Obj) (a c : World) : Prop := Mod (· = b) a c ∧ (At a b S → At c b S ∨ At c b S') ∧ (At a b S' → At c b S')
theorem Turn2.refl (b : Nat) (S S' : Obj) (a : World) : Turn2 b S S' a a := ⟨Mod.refl _ _, .inl, id⟩
theorem Turn2.trans {b : Nat} {S S' : Obj} {a c d : World} (h : Turn2 b S S' a c) (h' : Turn2 b S S' c d) : Turn2 b S S' a d :=
  ⟨h.1.trans h'.1, fun x => (h.2.1 x).elim h'.2.1 fun y => .inr (h'.2.2 y), fun x => h'.2.2 (h.2.2 x)⟩
theorem draw_turn2 {w : World} {body : (World → World → Prop) → (World → World → Prop) → World → Prop} (b : Nat) (S S' : Obj) (h : ∀ w0, Ext w w0 → w0.heap.size = w.heap.size → body (Turn2 b S S') (Turn2 b S S') w0) : DrawE w body :=
  ⟨_, _, ⟨fun a => Turn2.refl b S S' a, fun _ _ _ => Turn2.trans, fun _ _ h => h, fun _ _ _ => Turn2.trans⟩, h w.drew (Ext.drew w) rfl⟩
theorem det_turn2 {b : Nat} {S S' : Obj} {w0 : World} {op : World → (Value → World → Prop) → Prop} {rest : Value → (World → Prop) → Prop} (c : Value) (h : ∀ w1, Turn2 b S S' w0 w1 → ∀ K : Value → World → Prop, op w1 K = K c w1) (hk : rest c fun _ => True) : DetOp (Turn2 b S S') (Turn2 b S S') w0 op rest :=
  det_pure c (fun a => Turn2.refl b S S' a) (fun w1 h1 K hk => by rw [h w1 h1 K]; exact hk) hk
theorem det_fill2 {b : Nat} {p q : SPoint} {w0 : World} {X : List PanicEntry → World → Prop} {rest : Value → (World → Prop) → Prop} (h0 : At w0 b (.cells p.cells.toArray 28 (0, 0))) (hk : rest undef fun V => At V b (.cells q.cells.toArray 28 (0, 0))) :
    DetOp (Turn2 b (.cells p.cells.toArray 28 (0, 0)) (.cells q.cells.toArray 28 (0, 0))) (Turn2 b (.cells p.cells.toArray 28 (0, 0)) (.cells q.cells.toArray 28 (0, 0))) w0 (fun w1 K => DoU Tryz.prog (Instr.storeAt 28 (.pointer (some ⟨b, 0, none⟩)) (.agg q.cells.toArray)) w1 K X) rest :=
  ⟨undef, fun V => At V b (.cells q.cells.toArray 28 (0, 0)), fun _ _ h k => k.2.2 h, fun V k => by
    rcases k.2.1 h0 with h | h
    · exact SPoint.set (r := p) h fun V2 m2 hat2 _ => ⟨rfl, ⟨m2, fun _ => .inr hat2, fun _ => hat2⟩, hat2⟩
    · exact SPoint.set (r := q) h fun V2 m2 hat2 _ => ⟨rfl, ⟨m2, fun _ => .inr hat2, fun _ => hat2⟩, hat2⟩, hk⟩
theorem nd_pt {w0 : World} {X : List PanicEntry → World → Prop} {rest : Value → (World → Prop) → Prop}
    (hk : ∀ v, rest v fun W => ∃ b, v = .pointer (some ⟨b, 0, none⟩) ∧ w0.heap.size ≤ b ∧ At W b (.cells SPoint.zero.cells.toArray 28 (0, 0))) : NdOp Ext Ext w0 (fun w1 K => DoV Tryz.prog (Instr.alloc 28 true (.tuple #[])) w1 K X) rest :=
  ⟨fun v W => ∃ b, v = .pointer (some ⟨b, 0, none⟩) ∧ w0.heap.size ≤ b ∧ At W b (.cells SPoint.zero.cells.toArray 28 (0, 0)), fun v a b ⟨c, h1, h2, h3⟩ x => ⟨c, h1, h2, h3.ext x⟩, fun w1 x1 => alloc_i Ty.SPoint_zero fun b w2 x2 hat hb _ => ⟨x2, b, rfl, by have := x1.size; omega, hat⟩, hk⟩
theorem two_new2 {p q : SPoint} {w : World} {K : Value → Value → World → Prop} {X1 X2 X3 X4 : List PanicEntry → World → Prop} (hk : ∀ a b W, Ext w W → At W a (.cells p.cells.toArray 28 (0, 0)) → At W b (.cells q.cells.toArray 28 (0, 0)) → w.heap.size ≤ a → w.heap.size ≤ b → K (.pointer (some ⟨a, 0, none⟩)) (.pointer (some ⟨b, 0, none⟩)) W) :
    DoV Tryz.prog (Instr.alloc 28 true (.tuple #[])) w (fun a w1 => DoV Tryz.prog (Instr.alloc 28 true (.tuple #[])) w1 (fun b w2 => DoU Tryz.prog (Instr.storeAt 28 a (.agg p.cells.toArray)) w2 (fun _ w3 => DoU Tryz.prog (Instr.storeAt 28 b (.agg q.cells.toArray)) w3 (fun _ w4 => K a b w4) X4) X3) X2) X1 := by
  refine alloc_i Ty.SPoint_zero fun a w1 x1 hat1 ha _ => ?_
  refine alloc_i Ty.SPoint_zero fun b w2 x2 hat2 hb _ => ?_
  have l1 := hat1.lt
  have z1 := x1.size
  refine SPoint.set (s := p) (r := SPoint.zero) (hat1.ext x2) fun w3 m3 h3 _ => ?_
  refine SPoint.set (s := q) (r := SPoint.zero) (hat2.mod m3 (by omega)) fun w4 m4 h4 _ => ?_
  exact hk _ _ _ (ext_step15 (ext_step15 (x1.trans x2) m3 (by omega)) m4 (by omega)) (h3.mod m4 (by omega)) h4 (by omega) (by omega)
open Cha in
theorem refBounds_ret {s : SChart} {C : Cht} {i : Int} (w : World) (hc : ChartIs w s C) (hin : inC C i) : Ret Tryz.prog 61 #[.agg s.cells.toArray, .int .i64 i] w fun r w' => r = .tuple #[.agg (lowC C i).cells.toArray, .agg (highC C i).cells.toArray] ∧ Ext w w' := by
  refine ret_of (fun _ _ => sh_landfallref15_Bounds_ok _ _) fun R hR => ?_
  unfold sh_landfallref15_Bounds
  refine box_i fun g w1 x1 hat1 hg1 _ => ?_
  refine alloc_i Ty.SPoint_zero fun b4 w2 x2 hat4 hb4 _ => ?_
  refine alloc_i Ty.SPoint_zero fun b5 w3 x3 hat5 hb5 _ => ?_
  have x13 := x2.trans x3
  have x03 := x1.trans x13
  have ag := hat1.ext x13
  have hat4 : At w2 b4 (.cells SPoint.zero.cells.toArray 28 (0, 0)) := hat4
  have hat5 : At w3 b5 (.cells SPoint.zero.cells.toArray 28 (0, 0)) := hat5
  have a4 := hat4.ext x3
  have l1 := hat1.lt
  have l4 := hat4.lt
  have l5 := hat5.lt
  have z1 := x1.size
  have z2 := x2.size
  have z3 := x3.size
  obtain ⟨c1, c2, c3, c4, c5, c6⟩ := low_bnd hin
  obtain ⟨⟨hF, _⟩, h0, h1⟩ := id hin
  obtain ⟨_, hw, hh, hz, hwh, hmax, hp0, _⟩ := hF
  have p0 := Hul.place_iff.1 hp0
  simp only at p0
  refine draw_ext fun w4 x4 => ?_
  have z4 := x4.size
  have g0 : ∀ V, Ext w4 V → Has V g 0 s.cells := fun V x => has_of_at ((ag.ext x4).ext x)
  refine det_read _ (fun V x K => Ty.SChart_f1) ?_
  refine det_read (.int .i64 C.x) (fun V x K => by rw [← hc.x]; exact load_cell Ty.int_agg (has_at (g0 V x) (d := 1) rfl rfl)) ?_
  refine det_read _ (fun V x K => Ty.SChart_f3) ?_
  refine det_read (.int .i64 C.w) (fun V x K => by rw [← hc.w]; exact load_cell Ty.int_agg (has_at (g0 V x) (d := 3) rfl rfl)) ?_
  refine det_read (.int .i64 (i % C.w)) (fun V x K => by rw [bin_rem (by omega), Int.tmod_eq_emod_of_nonneg h0]) ?_
  refine det_read _ (fun V x K => Ty.SChart_f5) ?_
  refine det_read (.int .i64 C.size) (fun V x K => by rw [← hc.size]; exact load_cell Ty.int_agg (has_at (g0 V x) (d := 5) rfl rfl)) ?_
  refine det_read (.int .i64 (i % C.w * C.size)) (fun V x K => by rw [bin_mul, i64_wrap (by omega) (by omega)]) ?_
  refine det_read (.int .i64 (C.x + i % C.w * C.size)) (fun V x K => by rw [bin_add, i64_wrap (by omega) (by omega)]) ?_
  refine det_read _ (fun V x K => Ty.SChart_f2) ?_
  refine det_read (.int .i64 C.y) (fun V x K => by rw [← hc.y]; exact load_cell Ty.int_agg (has_at (g0 V x) (d := 2) rfl rfl)) ?_
  refine det_read _ (fun V x K => Ty.SChart_f3) ?_
  refine det_read (.int .i64 C.w) (fun V x K => by rw [← hc.w]; exact load_cell Ty.int_agg (has_at (g0 V x) (d := 3) rfl rfl)) ?_
  refine det_read (.int .i64 (i / C.w)) (fun V x K => by rw [bin_quo (by omega), Int.tdiv_eq_ediv_of_nonneg h0, i64_wrap (by omega) (by omega)]) ?_
  refine det_read _ (fun V x K => Ty.SChart_f5) ?_
  refine det_read (.int .i64 C.size) (fun V x K => by rw [← hc.size]; exact load_cell Ty.int_agg (has_at (g0 V x) (d := 5) rfl rfl)) ?_
  refine det_read (.int .i64 (i / C.w * C.size)) (fun V x K => by rw [bin_mul, i64_wrap (by omega) (by omega)]) ?_
  refine det_read (.int .i64 (C.y + i / C.w * C.size)) (fun V x K => by rw [bin_add, i64_wrap (by omega) (by omega)]) ?_
  refine det_read (.agg (lowC C i).cells.toArray) (fun V x K => by rw [build_i (new_pt15 _ _)]; rfl) ?_
  refine nd_pt fun v => ?_
  intro w5 x5 hψ
  obtain ⟨b6, rfl, hb6, hat6⟩ := hψ.2
  refine SPoint.set (s := lowC C i) (r := SPoint.zero) hat6 fun w6 m6 h6 s6 => ?_
  have x35 := x4.trans x5
  have z5 := x35.size
  have ag6 := (ag.ext x35).mod m6 (by omega)
  have a46 := (a4.ext x35).mod m6 (by omega)
  have a56 := (hat5.ext x35).mod m6 (by omega)
  refine draw_turn2 b4 (.cells SPoint.zero.cells.toArray 28 (0, 0)) (.cells (lowC C i).cells.toArray 28 (0, 0)) fun w7 x7 s7 => ?_
  have k0 : ∀ V, Turn2 b4 (.cells SPoint.zero.cells.toArray 28 (0, 0)) (.cells (lowC C i).cells.toArray 28 (0, 0)) w7 V → Has V g 0 s.cells := fun V k => has_of_at ((ag6.ext x7).mod k.1 (by omega))
  have k6 : ∀ V, Turn2 b4 (.cells SPoint.zero.cells.toArray 28 (0, 0)) (.cells (lowC C i).cells.toArray 28 (0, 0)) w7 V → Has V b6 0 (lowC C i).cells := fun V k => has_of_at ((h6.ext x7).mod k.1 (by omega))
  have lx : (lowC C i).x = C.x + i % C.w * C.size := rfl
  have ly : (lowC C i).y = C.y + i / C.w * C.size := rfl
  refine det_turn2 _ (fun V x K => SPoint.g_all (k6 V x)) ?_
  refine det_turn2 _ (fun V x K => Ty.SPoint_f0) ?_
  refine det_turn2 (.int .i64 (lowC C i).x) (fun V x K => load_cell Ty.int_agg (has_at (k6 V x) (d := 0) rfl rfl)) ?_
  refine det_turn2 _ (fun V x K => Ty.SChart_f5) ?_
  refine det_turn2 (.int .i64 C.size) (fun V x K => by rw [← hc.size]; exact load_cell Ty.int_agg (has_at (k0 V x) (d := 5) rfl rfl)) ?_
  refine det_turn2 (.int .i64 ((lowC C i).x + C.size)) (fun V x K => by rw [bin_add, i64_wrap (by omega) (by omega)]) ?_
  refine det_turn2 (.int .i64 ((lowC C i).x + C.size - 1)) (fun V x K => by rw [bin_sub, i64_wrap (by omega) (by omega)]) ?_
  refine det_turn2 _ (fun V x K => Ty.SPoint_f1) ?_
  refine det_turn2 (.int .i64 (lowC C i).y) (fun V x K => load_cell Ty.int_agg (has_at (k6 V x) (d := 1) rfl rfl)) ?_
  refine det_turn2 _ (fun V x K => Ty.SChart_f5) ?_
  refine det_turn2 (.int .i64 C.size) (fun V x K => by rw [← hc.size]; exact load_cell Ty.int_agg (has_at (k0 V x) (d := 5) rfl rfl)) ?_
  refine det_turn2 (.int .i64 ((lowC C i).y + C.size)) (fun V x K => by rw [bin_add, i64_wrap (by omega) (by omega)]) ?_
  refine det_turn2 (.int .i64 ((lowC C i).y + C.size - 1)) (fun V x K => by rw [bin_sub, i64_wrap (by omega) (by omega)]) ?_
  refine det_turn2 (.agg (highC C i).cells.toArray) (fun V x K => by rw [build_i (new_pt15 _ _)]; rfl) ?_
  refine det_fill2 (a46.ext x7) ?_
  intro w8 k8 hψ
  have h48 := hψ.2
  have h58 := (a56.ext x7).mod k8.1 (by omega)
  refine SPoint.set (s := highC C i) (r := SPoint.zero) h58 fun w9 m9 h59 s9 => ?_
  refine res_i (rv_cell (pt_var (h48.mod m9 (by omega))) (rv_cell (pt_var h59) (rv_nil _))) (hR _ _ ⟨rfl, ?_⟩)
  have y1 : Mod (w.heap.size ≤ ·) w w6 := (Mod.of_ext (x03.trans x35)).trans (m6.mono fun k _ h => by omega)
  exact (((y1.trans (.of_ext x7)).trans (k8.1.mono fun k _ h => by omega)).trans (m9.mono fun k _ h => by omega)).new
theorem refMeet_ret {a b c d : SPoint} (w : World) : Ret Tryz.prog 99 #[.agg a.cells.toArray, .agg b.cells.toArray, .agg c.cells.toArray, .agg d.cells.toArray] w fun r w' => (∃ t, r = .bool t ∧ (t = true ↔ a.x ≤ d.x ∧ c.x ≤ b.x ∧ a.y ≤ d.y ∧ c.y ≤ b.y)) ∧ Ext w w' := by
  refine ret_of (fun _ _ => sh_landfallref15_Meet_ok _ _ _ _) fun R hR => ?_
  unfold sh_landfallref15_Meet
  refine box_i fun b4 w1 x1 hat1 _ _ => ?_
  refine box_i fun b5 w2 x2 hat2 _ _ => ?_
  refine box_i fun b6 w3 x3 hat3 _ _ => ?_
  refine box_i fun b7 w4 x4 hat4 _ _ => ?_
  have x04 := ((x1.trans x2).trans x3).trans x4
  have qa := has_of_at (((hat1.ext x2).ext x3).ext x4)
  have qb := has_of_at ((hat2.ext x3).ext x4)
  have qc := has_of_at (hat3.ext x4)
  have qd := has_of_at hat4
  have no : ¬ (a.x ≤ d.x ∧ c.x ≤ b.x ∧ a.y ≤ d.y ∧ c.y ≤ b.y) → R (.returned (.bool false)) w4 := fun hn => hR _ _ ⟨⟨false, rfl, fun h => (by cases h), fun h => absurd h hn⟩, x04⟩
  rw [SPoint.g_x qa, SPoint.g_x qd, bin_leq]
  refine Gd_i (fun m1 => ?_) fun hb => no fun hn => dec_f hb hn.1
  rw [SPoint.g_x qc, SPoint.g_x qb, bin_leq]
  refine Gd_i (fun m2 => ?_) fun hb => no fun hn => dec_f hb hn.2.1
  rw [SPoint.g_y qa, SPoint.g_y qd, bin_leq]
  refine Gd_i (fun m3 => ?_) fun hb => no fun hn => dec_f hb hn.2.2.1
  rw [SPoint.g_y qc, SPoint.g_y qb, bin_leq]
  exact hR _ _ ⟨⟨_, rfl, fun ht => ⟨dec_t m1, dec_t m2, dec_t m3, of_decide_eq_true ht⟩, fun hn => decide_eq_true hn.2.2.2⟩, x04⟩
open Cha in
theorem refFind_ret {s : SChart} {C : Cht} {x : SPoint} (w : World) (hc : ChartIs w s C) (hG : GoodC C) : Ret Tryz.prog 45 #[.agg s.cells.toArray, .agg x.cells.toArray] w fun r w' => (∃ i : Int, r = .int .i64 i ∧ ((i = -1 ∧ ∀ j : Int, 0 ≤ j → j < C.cells.length → ¬ meets C x x j) ∨ ((0 ≤ i ∧ i < C.cells.length) ∧ meets C x x i))) ∧ Ext w w' := by
  refine ret_of (fun _ _ => sh_landfallref15_Find_ok _ _) fun R hR => ?_
  unfold sh_landfallref15_Find
  refine box_i fun g w1 x1 hat1 hg1 _ => ?_
  refine box_i fun b3 w2 x2 hat2 hb2 _ => ?_
  have x02 := x1.trans x2
  have hg : ∀ V, Ext w2 V → Has V g 0 s.cells := fun V y => has_of_at ((hat1.ext x2).ext y)
  have hq : ∀ V, Ext w2 V → Has V b3 0 x.cells := fun V y => has_of_at (hat2.ext y)
  have hcl : C.cells.length ≤ 4000 := (good_size hG).1
  refine loop1 (fun a W => ∃ k : Nat, k ≤ C.cells.length ∧ a = .int .i64 k ∧ Ext w2 W ∧ ∀ j : Int, 0 ≤ j → j < k → ¬ meets C x x j) (fun a _ => C.cells.length - (intOf a).toNat) ⟨0, by omega, rfl, Ext.refl _, fun j h1 h2 => by omega⟩ ?_
  rintro h _ W hx ⟨k, hk, rfl, xW, hno⟩ K hK
  rw [SChart.g_cs (hg W xW), SCell.row_len (Sl.ext hc.cells (x02.trans xW)), hx, bin_lss]
  refine Br_i (fun hb => ?_) fun hb => ?_
  · have hlt : (k : Int) < C.cells.length := dec_t hb
    rw [SChart.g_all (hg W xW)]
    refine callF_ret (refBounds_ret W (hc.ext (x02.trans xW)) ⟨hG, by omega, hlt⟩) ?_
    rintro _ w3 ⟨rfl, x3⟩
    rw [ext2_0, ext2_1]
    refine two_new fun ba bb w4 x4 hata hatb => ?_
    have x24 := (xW.trans x3).trans x4
    rw [SPoint.g_all (has_of_at hata), SPoint.g_all (has_of_at hatb), SPoint.g_all (hq w4 x24), SPoint.g_all (hq w4 x24)]
    refine callF_ret (refMeet_ret w4) ?_
    rintro _ w5 ⟨⟨t, rfl, ht⟩, x5⟩
    have hm : t = true ↔ meets C x x k := by rw [ht]; unfold meets; omega
    have x25 := x24.trans x5
    refine Br_i (fun hb2 => hR _ _ ⟨⟨k, rfl, .inr ⟨⟨by omega, hlt⟩, hm.1 hb2⟩⟩, x02.trans x25⟩) fun hb2 => ?_
    rw [bin_add, i64_wrap (by omega) (by omega)]
    refine hK _ _ ⟨k + 1, by omega, by simp, x25, fun j h1 h2 => ?_⟩ (by simp [intOf]; omega)
    by_cases hjk : j < k
    · exact hno j h1 hjk
    · have : j = k := by omega
      subst this
      intro hh
      rw [hm.2 hh] at hb2; cases hb2
  · have hke : k = C.cells.length := by have := dec_f hb; omega
    subst hke
    exact hR _ _ ⟨⟨-1, rfl, .inl ⟨rfl, hno⟩⟩, x02.trans xW⟩
open Cha in
theorem refAt_ret {s : SChart} {C : Cht} {x : SPoint} (w : World) (hc : ChartIs w s C) : Ret Tryz.prog 14 #[.agg s.cells.toArray, .agg x.cells.toArray] w fun r w' => r = .tuple #[.int .i64 (atV C x).1, .bool (atV C x).2.1, .int .i64 (atV C x).2.2] ∧ Ext w w' := by
  refine ret_of (fun _ _ => sh_landfallref15_At_ok _ _) fun R hR => ?_
  unfold sh_landfallref15_At
  refine box_i fun g w1 x1 hat1 hg1 _ => ?_
  refine box_i fun b3 w2 x2 hat2 hb2 _ => ?_
  have x02 := x1.trans x2
  have hg : ∀ V, Ext w2 V → Has V g 0 s.cells := fun V y => has_of_at ((hat1.ext x2).ext y)
  have hq : ∀ V, Ext w2 V → Has V b3 0 x.cells := fun V y => has_of_at (hat2.ext y)
  refine join0 (fun W => Ext w2 W ∧ GoodC C ∧ Hul.place x = true) ?_ fun K hK => ?_
  · rintro _ W ⟨xW, hG, hp⟩
    rw [SChart.g_all (hg W xW), SPoint.g_all (hq W xW)]
    refine callF_ret (refFind_ret (x := x) W (hc.ext (x02.trans xW)) hG) ?_
    rintro _ w3 ⟨⟨i, rfl, hi⟩, x3⟩
    rw [max2, bin_geq]
    refine hR _ _ ⟨?_, (x02.trans xW).trans x3⟩
    obtain ⟨e0, e1, e2⟩ := at_props hG hp
    rcases hi with ⟨rfl, hno⟩ | ⟨⟨h0, h1⟩, hm⟩
    · have hf : (atV C x).2.1 = false := by
        cases hh : (atV C x).2.1 with
        | false => rfl
        | true => exact absurd (e2 hh).2 (hno _ (e2 hh).1.1 (e2 hh).1.2)
      have hu := (at_under hG hp).2 hf
      have h3 : atV C x = (0, false, 0) := by
        unfold atV
        rw [if_pos ⟨valid_iff.2 hG, hp⟩, hu]
      rw [h3]; rfl
    · obtain ⟨f1, f2⟩ := e1 i h0 h1 hm
      rw [f1, e0, ← f2, decide_eq_true h0]
      have : mx i 0 = i := by unfold mx; rw [if_neg (by omega)]
      rw [this]
  · refine join1 (fun y V => ∃ t, y = .bool t ∧ Ext w2 V ∧ (t = true → ¬ (GoodC C ∧ Hul.place x = true)) ∧ (t = false → GoodC C ∧ Hul.place x = true)) ?_ fun K3 hK3 => ?_
    · rintro h2 _ V hx2 ⟨t, rfl, xV, ht, hf⟩
      rw [hx2]
      refine Br_i (fun hb => hR _ _ ⟨?_, x02.trans xV⟩) fun hb => hK _ ⟨xV, hf hb⟩
      unfold atV
      rw [if_neg fun hh => ht hb ⟨valid_iff.1 hh.1, hh.2⟩]
    rw [SChart.g_all (hg w2 (Ext.refl _))]
    refine callF_ret (refChValid_ret w2 (hc.ext x02)) ?_
    rintro _ w6 ⟨rfl, x6⟩
    rw [un_not]
    refine Gd_i (fun b1 => ?_) fun hb => hK3 _ _ ⟨true, rfl, x6, fun _ hn => (by have := nf hb; rw [valid_iff.2 hn.1] at this; cases this), fun ht => (by cases ht)⟩
    rw [SPoint.g_all (hq w6 x6)]
    refine callF_ret (Place_ret w6) ?_
    rintro _ w7 ⟨rfl, x7⟩
    rw [un_not]
    exact hK3 _ _ ⟨_, rfl, x6.trans x7, fun ht hn => (by rw [hn.2] at ht; cases ht), fun ht => ⟨valid_iff.1 (nd b1), nd ht⟩⟩
open Cha in
theorem refSquare_ret {s : SChart} {C : Cht} {i : Int} (w : World) (hc : ChartIs w s C) (hi : I64 i) : Ret Tryz.prog 18 #[.agg s.cells.toArray, .int .i64 i] w fun r w' => r = .tuple #[.agg (squareV C i).1.cells.toArray, .agg (squareV C i).2.1.cells.toArray, .int .i64 (squareV C i).2.2] ∧ Ext w w' := by
  refine ret_of (fun _ _ => sh_landfallref15_Square_ok _ _) fun R hR => ?_
  unfold sh_landfallref15_Square
  refine box_i fun g w1 x1 hat1 hg1 _ => ?_
  refine alloc_i Ty.SPoint_zero fun b4 w2 x2 hat4 hb4 _ => ?_
  refine alloc_i Ty.SPoint_zero fun b5 w3 x3 hat5 hb5 _ => ?_
  have x13 := x2.trans x3
  have x03 := x1.trans x13
  have a1 := hat1.ext x13
  have hat4 : At w2 b4 (.cells SPoint.zero.cells.toArray 28 (0, 0)) := hat4
  have hat5 : At w3 b5 (.cells SPoint.zero.cells.toArray 28 (0, 0)) := hat5
  have a4 := hat4.ext x3
  have l4 := hat4.lt
  have l5 := hat5.lt
  have z1 := x1.size
  have z2 := x2.size
  have z3 := x3.size
  have hle := hc.cells.le
  have fin : ∀ (W : World) (lo hi : SPoint) (e : Int), Mod (w.heap.size ≤ ·) w W → At W b4 (.cells lo.cells.toArray 28 (0, 0)) → At W b5 (.cells hi.cells.toArray 28 (0, 0)) → squareV C i = (lo, hi, e) →
      Res Tryz.prog [.cell (.pointer (some ⟨b4, 0, none⟩)) 28, .cell (.pointer (some ⟨b5, 0, none⟩)) 28, .tmp (.int .i64 e)] W R := fun W lo hi e m h4 h5 he =>
    res_i (rv_cell (pt_var h4) (rv_cell (pt_var h5) (rv_tmp (rv_nil _)))) (hR _ _ ⟨by rw [he]; rfl, m.new⟩)
  refine join0 (fun W => Ext w3 W ∧ inC C i) ?_ fun K hK => ?_
  · rintro _ W ⟨xW, hin⟩
    rw [SChart.g_all (has_of_at (a1.ext xW))]
    refine callF_ret (refBounds_ret W (hc.ext (x03.trans xW)) hin) ?_
    rintro _ w4 ⟨rfl, x4⟩
    rw [ext2_0, ext2_1]
    refine two_new2 fun ba bb w5 x5 hata hatb nba nbb => ?_
    have x35 := (xW.trans x4).trans x5
    have z34 := (xW.trans x4).size
    refine draw_turn2 b4 (.cells SPoint.zero.cells.toArray 28 (0, 0)) (.cells (lowC C i).cells.toArray 28 (0, 0)) fun w7 x7 s7 => ?_
    refine det_turn2 _ (fun V k K => SPoint.g_all (has_of_at ((hata.ext x7).mod k.1 (by omega)))) ?_
    refine det_turn2 _ (fun V k K => SPoint.g_all (has_of_at ((hatb.ext x7).mod k.1 (by omega)))) ?_
    refine det_fill2 ((a4.ext x35).ext x7) ?_
    intro w8 k8 hψ
    have h58 := ((hat5.ext x35).ext x7).mod k8.1 (by omega)
    refine SPoint.set (s := highC C i) (r := SPoint.zero) h58 fun w9 m9 h59 s9 => ?_
    refine fin w9 (lowC C i) (highC C i) 0 ?_ (hψ.2.mod m9 (by omega)) h59 (by unfold squareV; rw [if_pos hin])
    exact ((Mod.of_ext ((x03.trans x35).trans x7) : Mod (w.heap.size ≤ ·) w w7).trans (k8.1.mono fun k _ h => by omega)).trans (m9.mono fun k _ h => by omega)
  · refine join1 (fun y V => ∃ t, y = .bool t ∧ Ext w3 V ∧ (t = true → ¬ inC C i) ∧ (t = false → inC C i)) ?_ fun K3 hK3 => ?_
    · rintro h2 _ V hx2 ⟨t, rfl, xV, ht, hf⟩
      rw [hx2]
      refine Br_i (fun hb => ?_) fun hb => hK _ ⟨xV, hf hb⟩
      rw [build_i (show Tryz.prog.built 28 [] = some SPoint.zero.cells.toArray by kernel_rfl), build_i (show Tryz.prog.built 28 [] = some SPoint.zero.cells.toArray by kernel_rfl)]
      refine SPoint.set (s := SPoint.zero) (r := SPoint.zero) (a4.ext xV) fun w8 m8 h48 s8 => ?_
      refine SPoint.set (s := SPoint.zero) (r := SPoint.zero) ((hat5.ext xV).mod m8 (by omega)) fun w9 m9 h59 s9 => ?_
      refine fin w9 SPoint.zero SPoint.zero 1 ?_ (h48.mod m9 (by omega)) h59 (by unfold squareV; rw [if_neg (ht hb)]; rfl)
      exact ((Mod.of_ext (x03.trans xV) : Mod (w.heap.size ≤ ·) w V).trans (m8.mono fun k _ h => by omega)).trans (m9.mono fun k _ h => by omega)
    rw [SChart.g_all (has_of_at a1)]
    refine callF_ret (refChValid_ret w3 (hc.ext x03)) ?_
    rintro _ w6 ⟨rfl, x6⟩
    rw [un_not]
    refine Gd_i (fun b1 => ?_) fun hb => hK3 _ _ ⟨true, rfl, x6, fun _ hn => (by have := nf hb; rw [valid_iff.2 hn.1] at this; cases this), fun ht => (by cases ht)⟩
    rw [SChart.g_cs (has_of_at (a1.ext x6)), SCell.row_len (Sl.ext hc.cells (x03.trans x6)), bin_sub, i64_wrap (by omega) (by omega)]
    refine callF_ret (refIn15_ret _ _ _ w6) ?_
    rintro _ w7 ⟨rfl, x7⟩
    rw [un_not]
    refine hK3 _ _ ⟨_, rfl, x6.trans x7, fun ht hn => ?_, fun ht => ⟨valid_iff.1 (nd b1), ?_⟩⟩
    · rw [decide_eq_true (show 0 ≤ i ∧ i ≤ (C.cells.length : Int) - 1 by have := hn.2; omega)] at ht; cases ht
    · have := of_decide_eq_true (nd ht); omega
open Cha in
theorem refUnder_ret {s : SChart} {C : Cht} {lo hi : SPoint} (w : World) (hc : ChartIs w s C) (hG : GoodC C) : Ret Tryz.prog 62 #[.agg s.cells.toArray, .agg lo.cells.toArray, .agg hi.cells.toArray] w fun r w' => IntsIs w' r (under C lo hi) ∧ Ext w w' := by
  refine ret_of (fun _ _ => sh_landfallref15_Under_ok _ _ _) fun R hR => ?_
  unfold sh_landfallref15_Under
  refine box_i fun g w1 x1 hat1 hg1 _ => ?_
  refine box_i fun b4 w2 x2 hat2 hb2 _ => ?_
  refine box_i fun b5 w3 x3 hat3 hb3 _ => ?_
  have x03 := (x1.trans x2).trans x3
  have hg : ∀ V, Ext w3 V → Has V g 0 s.cells := fun V y => has_of_at (((hat1.ext x2).ext x3).ext y)
  have hl : ∀ V, Ext w3 V → Has V b4 0 lo.cells := fun V y => has_of_at ((hat2.ext x3).ext y)
  have hh : ∀ V, Ext w3 V → Has V b5 0 hi.cells := fun V y => has_of_at (hat3.ext y)
  have hcl : C.cells.length ≤ 4000 := (good_size hG).1
  have hsort := under_sorted (lo := lo) (hi := hi) (show 1 ≤ C.w from hG.1.2.1.1)
  have hlen := under_le (lo := lo) (hi := hi) hG.1
  have hm : ∀ n : Int, n ∈ under C lo hi ↔ (0 ≤ n ∧ n < C.cells.length) ∧ meets C lo hi n := fun n => mem_under hG.1
  generalize hL : under C lo hi = L at *
  have hb0 : below L ((0 : Nat) : Int) = [] := below_none fun a ha => by have := ((hm a).1 ha).1.1; simpa using this
  refine loop2 (fun a x W => ∃ (v : Value) (k : Nat), k ≤ C.cells.length ∧ a = v ∧ x = .int .i64 k ∧ Ext w3 W ∧ W.ownsRow w3.heap.size 3 1 v (below L k).length (iv (below L k))) (fun _ x _ => C.cells.length - (intOf x).toNat) ⟨_, 0, by omega, rfl, rfl, Ext.refl _, by rw [hb0]; exact Own.nil _ _ _ _⟩ ?_
  rintro h _ _ W hv hx ⟨v, k, hk, rfl, rfl, xW, ho⟩ K hK
  rw [SChart.g_cs (hg W xW), SCell.row_len (Sl.ext hc.cells (x03.trans xW)), hx, bin_lss]
  have hbl : (below L k).length ≤ 4000 := by have := List.length_filter_le (fun a => decide (a < (k : Int))) L; unfold below; omega
  refine Br_i (fun hb => ?_) fun hb => ?_
  · have hlt : (k : Int) < C.cells.length := dec_t hb
    have hsucc := below_succ hsort (k : Int)
    refine join1 (fun a V => ∃ v' : Value, a = v' ∧ Ext w3 V ∧ V.ownsRow w3.heap.size 3 1 v' (below L ((k : Int) + 1)).length (iv (below L ((k : Int) + 1)))) ?_ fun K1 hK1 => ?_
    · rintro h2 _ V ha ⟨v', rfl, y1, y2⟩
      rw [ha, bin_add, i64_wrap (by omega) (by omega)]
      exact hK _ _ _ ⟨_, k + 1, by omega, rfl, by simp, y1, y2⟩ (by simp [intOf]; omega)
    rw [SChart.g_all (hg W xW)]
    refine callF_ret (refBounds_ret W (hc.ext (x03.trans xW)) ⟨hG, by omega, hlt⟩) ?_
    rintro _ w4 ⟨rfl, x4⟩
    rw [ext2_0, ext2_1]
    refine two_new fun ba bb w5 x5 hata hatb => ?_
    have x35 := (xW.trans x4).trans x5
    rw [SPoint.g_all (hl w5 x35), SPoint.g_all (hh w5 x35), SPoint.g_all (has_of_at hata), SPoint.g_all (has_of_at hatb)]
    refine callF_ret (refMeet_ret w5) ?_
    rintro _ w6 ⟨⟨t, rfl, ht⟩, x6⟩
    have hmt : t = true ↔ (k : Int) ∈ L := by rw [ht, hm]; unfold meets; exact ⟨fun h => ⟨⟨by omega, hlt⟩, h⟩, fun h => h.2⟩
    have x36 := x35.trans x6
    have xW6 := (x4.trans x5).trans x6
    refine Br_i (fun hb2 => ?_) fun hb2 => ?_
    · refine lit_ints [(k : Int)] rfl (by decide) (by decide) rfl fun vk w7 x7 hok7 _ => ?_
      rw [hv]
      refine app_ints (Own.ext ho (xW6.trans x7)) (Sl.of_owns hok7) (by simp; omega) (by have := (x36.trans x7).size; omega) fun v' w8 ho8 m8 => ?_
      refine hK1 _ _ ⟨v', rfl, ((Mod.of_ext (x36.trans x7) : Mod (w3.heap.size ≤ ·) w3 w7).trans (m8.mono fun j _ hj => (Own.block (Own.ext ho (xW6.trans x7)) hj).1)).new, ?_⟩
      rw [hsucc, if_pos (hmt.1 hb2)]; exact ho8
    · rw [hv]
      refine hK1 _ _ ⟨_, rfl, x36, ?_⟩
      rw [hsucc, if_neg (fun hh => by rw [hmt.2 hh] at hb2; cases hb2), List.append_nil]
      exact Own.ext ho xW6
  · have hke : k = C.cells.length := by have := dec_f hb; omega
    subst hke
    rw [below_all fun a ha => ((hm a).1 ha).1.2] at ho
    rw [hv]
    exact hR _ _ ⟨Sl.of_owns ho, x03.trans xW⟩
open Cha in
theorem refTouched_ret {s : SChart} {C : Cht} {lo hi : SPoint} (w : World) (hc : ChartIs w s C) : Ret Tryz.prog 20 #[.agg s.cells.toArray, .agg lo.cells.toArray, .agg hi.cells.toArray] w fun r w' => (∃ v, r = .tuple #[v, .int .i64 (touchV C lo hi).2] ∧ IntsIs w' v (touchV C lo hi).1) ∧ Ext w w' := by
  refine ret_of (fun _ _ => sh_landfallref15_Touched_ok _ _ _) fun R hR => ?_
  unfold sh_landfallref15_Touched
  refine box_i fun g w1 x1 hat1 hg1 _ => ?_
  refine box_i fun b4 w2 x2 hat2 hb2 _ => ?_
  refine box_i fun b5 w3 x3 hat3 hb3 _ => ?_
  have x03 := (x1.trans x2).trans x3
  have hg : ∀ V, Ext w3 V → Has V g 0 s.cells := fun V y => has_of_at (((hat1.ext x2).ext x3).ext y)
  have hl : ∀ V, Ext w3 V → Has V b4 0 lo.cells := fun V y => has_of_at ((hat2.ext x3).ext y)
  have hh : ∀ V, Ext w3 V → Has V b5 0 hi.cells := fun V y => has_of_at (hat3.ext y)
  refine join0 (fun W => Ext w3 W ∧ rectP C lo hi) ?_ fun K hK => ?_
  · rintro _ W ⟨xW, hP⟩
    rw [SChart.g_all (hg W xW), SPoint.g_all (hl W xW), SPoint.g_all (hh W xW)]
    refine callF_ret (refUnder_ret W (hc.ext (x03.trans xW)) hP.1) ?_
    rintro v w4 ⟨hv, x4⟩
    exact hR _ _ ⟨⟨v, by unfold touchV; rw [if_pos hP], by unfold touchV; rw [if_pos hP]; exact hv⟩, (x03.trans xW).trans x4⟩
  · refine join1 (fun y V => ∃ t, y = .bool t ∧ Ext w3 V ∧ (t = true → ¬ rectP C lo hi) ∧ (t = false → rectP C lo hi)) ?_ fun K3 hK3 => ?_
    · rintro h2 _ V hx2 ⟨t, rfl, xV, ht, hf⟩
      rw [hx2]
      refine Br_i (fun hb => hR _ _ ⟨⟨.slice none 0 0, ?_, ?_⟩, x03.trans xV⟩) fun hb => hK _ ⟨xV, hf hb⟩
      · unfold touchV; rw [if_neg (ht hb)]
      · unfold touchV; rw [if_neg (ht hb)]; exact Sl.nil _ _
    have bad : ∀ V, Ext w3 V → ¬ rectP C lo hi → K3 [.bool true] V := fun V xV hn => hK3 _ _ ⟨true, rfl, xV, fun _ => hn, fun ht => by cases ht⟩
    rw [SChart.g_all (hg w3 (Ext.refl _))]
    refine callF_ret (refChValid_ret w3 (hc.ext x03)) ?_
    rintro _ w6 ⟨rfl, x6⟩
    rw [un_not]
    refine Gd_i (fun b1 => ?_) fun hb => bad _ x6 fun hn => (by have := nf hb; rw [valid_iff.2 hn.1] at this; cases this)
    rw [SPoint.g_all (hl w6 x6)]
    refine callF_ret (Place_ret w6) ?_
    rintro _ w7 ⟨rfl, x7⟩
    have x37 := x6.trans x7
    rw [un_not]
    refine Gd_i (fun b2 => ?_) fun hb => bad _ x37 fun hn => (by have := nf hb; rw [hn.2.1] at this; cases this)
    rw [SPoint.g_all (hh w7 x37)]
    refine callF_ret (Place_ret w7) ?_
    rintro _ w8 ⟨rfl, x8⟩
    have x38 := x37.trans x8
    rw [un_not]
    refine Gd_i (fun b3 => ?_) fun hb => bad _ x38 fun hn => (by have := nf hb; rw [hn.2.2.1] at this; cases this)
    rw [SPoint.g_x (hl w8 x38), SPoint.g_x (hh w8 x38), bin_gtr]
    refine Gd_i (fun b4 => ?_) fun hb => bad _ x38 fun hn => (by have := dec_t hb; have := hn.2.2.2.1; omega)
    rw [SPoint.g_y (hl w8 x38), SPoint.g_y (hh w8 x38), bin_gtr]
    refine hK3 _ _ ⟨_, rfl, x38, fun ht hn => (by have := of_decide_eq_true ht; have := hn.2.2.2.2; omega), fun ht => ⟨valid_iff.1 (nd b1), nd b2, nd b3, ?_, ?_⟩⟩
    · have := dec_f b4; omega
    · have := of_decide_eq_false ht; omega
open Cha in
theorem refBeacon_ret {s : SChart} {C : Cht} {id : Int} (w : World) (hc : ChartIs w s C) : Ret Tryz.prog 23 #[.agg s.cells.toArray, .int .i64 id] w fun r w' => r = .tuple #[.agg (beaconV C id).1.cells.toArray, .bool (beaconV C id).2.1, .int .i64 (beaconV C id).2.2] ∧ Ext w w' := by
  refine ret_of (fun _ _ => sh_landfallref15_Beacon_ok _ _) fun R hR => ?_
  unfold sh_landfallref15_Beacon
  refine box_i fun g w1 x1 hat1 hg1 _ => ?_
  refine alloc_i Ty.SPoint_zero fun b4 w2 x2 hat4 hb4 _ => ?_
  have hat4 : At w2 b4 (.cells SPoint.zero.cells.toArray 28 (0, 0)) := hat4
  have x02 := x1.trans x2
  have z1 := x1.size
  have z2 := x2.size
  have l4 := hat4.lt
  have a1 := hat1.ext x2
  have hg : ∀ V, Ext w2 V → Has V g 0 s.cells := fun V y => has_of_at (a1.ext y)
  have hle := hc.beacons.le
  have fin : ∀ (V V2 : World) (p : SPoint) (t : Bool) (e : Int), Ext w2 V → Mod (· = b4) V V2 → At V2 b4 (.cells p.cells.toArray 28 (0, 0)) → beaconV C id = (p, t, e) →
      Res Tryz.prog [.cell (.pointer (some ⟨b4, 0, none⟩)) 28, .tmp (.bool t), .tmp (.int .i64 e)] V2 R := fun V V2 p t e xV m hat he =>
    res_i (rv_cell (pt_var hat) (rv_tmp (rv_tmp (rv_nil _)))) (hR _ _ ⟨by rw [he]; rfl, ((Mod.of_ext (x02.trans xV) : Mod (w.heap.size ≤ ·) w V).trans (m.mono fun k _ h => by omega)).new⟩)
  rw [SChart.g_all (has_of_at a1)]
  refine callF_ret (refChValid_ret w2 (hc.ext x02)) ?_
  rintro _ w3 ⟨rfl, x3⟩
  rw [un_not]
  refine Br_i (fun hb => ?_) fun hb => ?_
  · have hn : ¬ GoodC C := fun h => by rw [valid_iff.2 h] at hb; cases hb
    rw [build_i (show Tryz.prog.built 28 [] = some SPoint.zero.cells.toArray by kernel_rfl)]
    refine SPoint.set (s := SPoint.zero) (r := SPoint.zero) (hat4.ext x3) fun w7 m7 hat7 s7 => ?_
    exact fin w3 w7 _ false 1 x3 m7 hat7 (by unfold beaconV; rw [if_neg hn]; rfl)
  have hG := valid_iff.1 (nd hb)
  refine loop1 (fun x W => ∃ k : Nat, k ≤ C.beacons.length ∧ x = .int .i64 k ∧ Ext w2 W ∧ ∀ q ∈ C.beacons.take k, decide (q.id = id) = false) (fun x _ => C.beacons.length - (intOf x).toNat) ⟨0, by omega, rfl, x3, by simp⟩ ?_
  rintro h _ W hx ⟨k, hk, rfl, xW, hno⟩ K hK
  rw [SChart.g_bs (hg W xW), SBeacon.row_len (Sl.ext hc.beacons (x02.trans xW)), hx, bin_lss]
  refine Br_i (fun hb1 => ?_) fun hb1 => ?_
  · have hlt : k < C.beacons.length := by have := dec_t hb1; omega
    obtain ⟨pb, po, hh, _, hix⟩ := SBeacon.row_at hc.beacons hlt
    have hW := hh W (x02.trans xW)
    rw [SChart.g_bs (hg W xW), hix, SBeacon.g_id hW, bin_eql]
    refine Br_i (fun hb2 => ?_) fun hb2 => ?_
    · rw [SChart.g_bs (hg W xW), hix, SBeacon.g_at_ hW]
      refine SPoint.set (r := SPoint.zero) (hat4.ext xW) fun w7 m7 hat7 s7 => ?_
      refine fin W w7 _ true 0 xW m7 hat7 ?_
      unfold beaconV
      rw [if_pos hG, find_at hlt hno hb2]
    · rw [bin_add, i64_wrap (by omega) (by omega)]
      refine hK _ _ ⟨k + 1, by omega, by simp, xW, fun q hq => ?_⟩ (by simp [intOf]; omega)
      rw [List.take_succ_eq_append_getElem hlt, List.mem_append, List.mem_singleton] at hq
      rcases hq with hq | rfl
      · exact hno q hq
      · exact hb2
  · have hke : k = C.beacons.length := by have := dec_f hb1; omega
    subst hke
    rw [List.take_length] at hno
    rw [build_i (show Tryz.prog.built 28 [] = some SPoint.zero.cells.toArray by kernel_rfl)]
    refine SPoint.set (s := SPoint.zero) (r := SPoint.zero) (hat4.ext xW) fun w7 m7 hat7 s7 => ?_
    refine fin W w7 _ false 0 xW m7 hat7 ?_
    unfold beaconV
    rw [if_pos hG, List.find?_eq_none.2 fun q hq => by rw [hno q hq]; decide]; rfl
open Cha in
theorem refLineOf_ret {s : SChart} {C : Cht} {id : Int} (w : World) (hc : ChartIs w s C) : Ret Tryz.prog 25 #[.agg s.cells.toArray, .int .i64 id] w fun r w' => (∃ t : SLine, r = .tuple #[.agg t.cells.toArray, .bool (lineV C id).2.1, .int .i64 (lineV C id).2.2] ∧ LineIs w' t (lineV C id).1) ∧ Ext w w' := by
  refine ret_of (fun _ _ => sh_landfallref15_Line_ok _ _) fun R hR => ?_
  unfold sh_landfallref15_Line
  refine box_i fun g w1 x1 hat1 hg1 _ => ?_
  refine alloc_i Ty.SLine_zero fun b4 w2 x2 hat4 hb4 _ => ?_
  have hat4 : At w2 b4 (.cells SLine.zero.cells.toArray 44 (0, 0)) := hat4
  have x02 := x1.trans x2
  have z1 := x1.size
  have z2 := x2.size
  have l4 := hat4.lt
  have a1 := hat1.ext x2
  have hg : ∀ V, Ext w2 V → Has V g 0 s.cells := fun V y => has_of_at (a1.ext y)
  have hle := hc.lines.le
  have ext' : ∀ {V V2 : World}, Ext w2 V → Mod (· = b4) V V2 → Ext w V2 := fun xV m => ((Mod.of_ext (x02.trans xV) : Mod (w.heap.size ≤ ·) w _).trans (m.mono fun k _ h => by omega)).new
  have fin : ∀ (V V2 : World) (p : SLine) (l : Line) (t : Bool) (e : Int), Ext w2 V → Mod (· = b4) V V2 → At V2 b4 (.cells p.cells.toArray 44 (0, 0)) → LineIs V2 p l → lineV C id = (l, t, e) →
      Res Tryz.prog [.cell (.pointer (some ⟨b4, 0, none⟩)) 44, .tmp (.bool t), .tmp (.int .i64 e)] V2 R := fun V V2 p l t e xV m hat hl he =>
    res_i (rv_cell (loadVar_agg Ty.SLine_agg Ty.SLine_size (xs := p.cells) rfl (has_of_at hat)) (rv_tmp (rv_tmp (rv_nil _)))) (hR _ _ ⟨⟨p, by rw [he]; rfl, by rw [he]; exact hl⟩, ext' xV m⟩)
  have hz : ∀ V : World, LineIs V SLine.zero (0, []) := fun V => ⟨rfl, SPoint.row_nil V⟩
  rw [SChart.g_all (has_of_at a1)]
  refine callF_ret (refChValid_ret w2 (hc.ext x02)) ?_
  rintro _ w3 ⟨rfl, x3⟩
  rw [un_not]
  refine Br_i (fun hb => ?_) fun hb => ?_
  · have hn : ¬ GoodC C := fun h => by rw [valid_iff.2 h] at hb; cases hb
    rw [build_i (show Tryz.prog.built 44 [] = some SLine.zero.cells.toArray by kernel_rfl)]
    refine SLine.set (s := SLine.zero) (r := SLine.zero) (hat4.ext x3) fun w7 m7 hat7 s7 => ?_
    exact fin w3 w7 _ _ false 1 x3 m7 hat7 (hz _) (by unfold lineV; rw [if_neg hn])
  have hG := valid_iff.1 (nd hb)
  refine loop1 (fun x W => ∃ k : Nat, k ≤ C.lines.length ∧ x = .int .i64 k ∧ Ext w2 W ∧ ∀ q ∈ C.lines.take k, decide (q.1 = id) = false) (fun x _ => C.lines.length - (intOf x).toNat) ⟨0, by omega, rfl, x3, by simp⟩ ?_
  rintro h _ W hx ⟨k, hk, rfl, xW, hno⟩ K hK
  rw [SChart.g_ls (hg W xW), (hc.lines.ext (x02.trans xW)).len, hx, bin_lss]
  refine Br_i (fun hb1 => ?_) fun hb1 => ?_
  · have hlt : k < C.lines.length := by have := dec_t hb1; omega
    obtain ⟨pb, po, sl, hsl, hh, hix⟩ := hc.lines.at_ hlt
    have hW := hh W (x02.trans xW)
    rw [SChart.g_ls (hg W xW), hix, SLine.g_id hW, hsl.1, bin_eql]
    refine Br_i (fun hb2 => ?_) fun hb2 => ?_
    · rw [SChart.g_ls (hg W xW), hix, SLine.g_all hW]
      refine SLine.set (r := SLine.zero) (hat4.ext xW) fun w7 m7 hat7 s7 => ?_
      refine fin W w7 sl C.lines[k] true 0 xW m7 hat7 (hsl.ext (ext' xW m7)) ?_
      unfold lineV
      rw [if_pos hG, find_at hlt hno hb2]
    · rw [bin_add, i64_wrap (by omega) (by omega)]
      refine hK _ _ ⟨k + 1, by omega, by simp, xW, fun q hq => ?_⟩ (by simp [intOf]; omega)
      rw [List.take_succ_eq_append_getElem hlt, List.mem_append, List.mem_singleton] at hq
      rcases hq with hq | rfl
      · exact hno q hq
      · exact hb2
  · have hke : k = C.lines.length := by have := dec_f hb1; omega
    subst hke
    rw [List.take_length] at hno
    rw [build_i (show Tryz.prog.built 44 [] = some SLine.zero.cells.toArray by kernel_rfl)]
    refine SLine.set (s := SLine.zero) (r := SLine.zero) (hat4.ext xW) fun w7 m7 hat7 s7 => ?_
    refine fin W w7 _ (0, []) false 0 xW m7 hat7 (hz _) ?_
    unfold lineV
    rw [if_pos hG, List.find?_eq_none.2 fun q hq => by rw [hno q hq]; decide]
theorem ints_i64 {C : Cht} (hG : Cha.GoodC C) (hok : ChartOk C) : ∀ n ∈ Cha.ints C, I64 n := by
  obtain ⟨hcl, hbl, hll, hpl⟩ := Cha.good_size hG
  intro n hn
  have small : ∀ k : Nat, k ≤ 4000 → I64 (k : Int) := fun k hk => ⟨by omega, by omega⟩
  unfold Cha.ints at hn
  simp only [List.mem_append, List.mem_cons, List.not_mem_nil, or_false, List.mem_flatMap] at hn
  obtain ⟨n1, n2, n3, n4, n5, n6⟩ := hok.nums
  rcases hn with ((((h | ⟨c, hc, h⟩) | h) | ⟨b, hb, h⟩) | h) | ⟨l, hl, h⟩
  · rcases h with rfl | rfl | rfl | rfl | rfl | rfl | rfl
    · exact n1
    · exact n2
    · exact n3
    · exact n4
    · exact n5
    · exact n6
    · exact small _ hcl
  · obtain ⟨⟨c1, c2⟩, c3, _⟩ := hok.cells c hc
    simp only [Cha.cellInts, List.mem_cons, List.not_mem_nil, or_false] at h
    rcases h with rfl | rfl | rfl | rfl
    · exact c1
    · exact c2
    · exact c3
    · split <;> (unfold I64; omega)
  · subst h; exact small _ (by omega)
  · obtain ⟨b1, b2, b3⟩ := hok.beacons b hb
    simp only [Cha.beaconInts, List.mem_cons, List.not_mem_nil, or_false] at h
    rcases h with rfl | rfl | rfl
    · exact b1
    · exact b2
    · exact b3
  · subst h; exact small _ (by omega)
  · obtain ⟨l1, l2⟩ := hok.lines l hl
    simp only [Cha.lineInts, List.mem_append, List.mem_cons, List.not_mem_nil, or_false, List.mem_flatMap, Cha.ptInts] at h
    rcases h with (rfl | rfl) | ⟨p, hp, rfl | rfl⟩
    · exact l1
    · exact small _ (by have := hpl l hl; omega)
    · exact (l2 p hp).1
    · exact (l2 p hp).2
open Cha in
theorem refDigest15_ret {s : SChart} {C : Cht} (w : World) (hc : ChartIs w s C) (hok : ChartOk C) : Ret Tryz.prog 28 #[.agg s.cells.toArray] w fun r w' => r = .tuple #[u64v (digestV C).1, .int .i64 (digestV C).2] ∧ Ext w w' := by
  refine ret_of (fun _ _ => sh_landfallref15_Digest_ok _) fun R hR => ?_
  unfold sh_landfallref15_Digest
  refine box_i fun g w1 x1 hat1 hg1 _ => ?_
  rw [SChart.g_all (has_of_at hat1)]
  refine callF_ret (refChValid_ret w1 (hc.ext x1)) ?_
  rintro _ w2 ⟨rfl, x2⟩
  rw [un_not]
  refine Br_i (fun hb => hR _ _ ⟨?_, x1.trans x2⟩) fun hb => ?_
  · have hn : ¬ GoodC C := fun h => by rw [valid_iff.2 h] at hb; cases hb
    unfold digestV; rw [if_neg hn]; rfl
  have hG := valid_iff.1 (nd hb)
  have hS := good_size hG
  rw [SChart.g_all (has_of_at (hat1.ext x2))]
  refine callF_ret (refInts_ret w2 (hc.ext (x1.trans x2)) hS) ?_
  rintro v w3 ⟨hv, x3⟩
  have hlen : (ints C).length ≤ 1000000000 := by
    obtain ⟨hcl, hbl, hll, hpl⟩ := hS
    have f1 := flat_len (f := cellInts) (n := 4) C.cells fun _ _ => Nat.le_refl _
    have f2 := flat_len (f := beaconInts) (n := 3) C.beacons fun _ _ => Nat.le_refl _
    have f3 := flat_len (f := lineInts) (n := 130) C.lines fun l hl => line_len (hpl l hl)
    unfold ints
    simp only [List.length_append, List.length_cons, List.length_nil]
    omega
  refine callF_ret (ref_sum_ret (ints_i64 hG hok) hlen w3 hv) ?_
  intro r w4 hr
  obtain ⟨rfl, x4⟩ : r = u64v (Dig.sum (ints C)) ∧ Ext w3 w4 := hr
  exact hR _ _ ⟨by unfold digestV; rw [if_pos hG], ((x1.trans x2).trans x3).trans x4⟩
end Go.Proofs.YtnbcdaonkdffkaaGreatDoor
