/- The law ChartMoves. -/
import Derived.Test.YtdfpdfahcbflpabDoorGChbI
set_option linter.unusedVariables false
set_option linter.unusedSimpArgs false
namespace Go.Proofs.YtdfpdfahcbflpabDoor
set_option maxRecDepth 100000
set_option maxHeartbeats 16000000
open Sh Go.RowKit
namespace Cha
theorem col_move {f z v d : Int} : col (f + d) z (v + d) = col f z v := by
  unfold col
  have e : v + d - (f + d) = v - f := by omega
  rw [e]
  by_cases h : v < f
  · rw [if_pos h, if_pos (by omega)]
  · rw [if_neg h, if_neg (by omega)]
def moved (C : Cht) (b : SPoint) : Cht := { C with x := C.x + b.x, y := C.y + b.y }
theorem under_move {C : Cht} {x b : SPoint} : under (moved C b) ⟨x.x + b.x, x.y + b.y⟩ ⟨x.x + b.x, x.y + b.y⟩ = under C x x := by
  have e1 : lox (moved C b) ⟨x.x + b.x, x.y + b.y⟩ = lox C x := by unfold lox moved; rw [col_move]
  have e2 : loy (moved C b) ⟨x.x + b.x, x.y + b.y⟩ = loy C x := by unfold loy moved; rw [col_move]
  have e3 : hix (moved C b) ⟨x.x + b.x, x.y + b.y⟩ = hix C x := by unfold hix moved; rw [col_move]
  have e4 : hiy (moved C b) ⟨x.x + b.x, x.y + b.y⟩ = hiy C x := by unfold hiy moved; rw [col_move]
  have e5 : nx (moved C b) ⟨x.x + b.x, x.y + b.y⟩ ⟨x.x + b.x, x.y + b.y⟩ = nx C x x := by unfold nx; rw [e1, e3]
  have e6 : ny (moved C b) ⟨x.x + b.x, x.y + b.y⟩ ⟨x.x + b.x, x.y + b.y⟩ = ny C x x := by unfold ny; rw [e2, e4]
  unfold under
  rw [e5, e6]
  refine congrArg (fun f => List.map f _) (funext fun k => ?_)
  unfold ucell
  rw [e1, e2, e5]
  rfl
theorem at_move {C : Cht} {x b : SPoint} (h1 : GoodC C) (h2 : GoodC (moved C b)) (h3 : Hul.place x = true) (h4 : Hul.place ⟨x.x + b.x, x.y + b.y⟩ = true) : atV (moved C b) ⟨x.x + b.x, x.y + b.y⟩ = atV C x := by
  unfold atV
  rw [if_pos ⟨valid_iff.2 h2, h4⟩, if_pos ⟨valid_iff.2 h1, h3⟩, under_move]
end Cha
def Turn (b : Nat) (S S' : Obj) (a c : World) : Prop := Mod (· = b) a c ∧ (At a b S → At c b S ∨ At c b S') ∧ (At a b S' → At c b S')
theorem Turn.refl (b : Nat) (S S' : Obj) (a : World) : Turn b S S' a a := ⟨Mod.refl _ _, .inl, id⟩
theorem Turn.trans {b : Nat} {S S' : Obj} {a c d : World} (h : Turn b S S' a c) (h' : Turn b S S' c d) : Turn b S S' a d :=
  ⟨h.1.trans h'.1, fun x => (h.2.1 x).elim h'.2.1 fun y => .inr (h'.2.2 y), fun x => h'.2.2 (h.2.2 x)⟩
theorem draw_turn {w : World} {body : (World → World → Prop) → (World → World → Prop) → World → Prop} (b : Nat) (S S' : Obj) (h : ∀ w0, Ext w w0 → body (Turn b S S') (Turn b S S') w0) : DrawE w body :=
  ⟨_, _, ⟨fun a => Turn.refl b S S' a, fun _ _ _ => Turn.trans, fun _ _ h => h, fun _ _ _ => Turn.trans⟩, h w.drew (Ext.drew w)⟩
theorem det_turn {b : Nat} {S S' : Obj} {w0 : World} {op : World → (Value → World → Prop) → Prop} {rest : Value → (World → Prop) → Prop} (c : Value) (h : ∀ w1, Turn b S S' w0 w1 → ∀ K : Value → World → Prop, op w1 K = K c w1) (hk : rest c fun _ => True) : DetOp (Turn b S S') (Turn b S S') w0 op rest :=
  det_pure c (fun a => Turn.refl b S S' a) (fun w1 h1 K hk => by rw [h w1 h1 K]; exact hk) hk
open Cha in
theorem ChartMoves_ret {s : SChart} {C : Cht} {x b : SPoint} (w : World) (hc : ChartIs w s C) (hok : ChartOk C) (hxo : x.Ok) (hbo : b.Ok) (hT : Tab w) : Ret Tryd.prog 5 #[.agg s.cells.toArray, .agg x.cells.toArray, .agg b.cells.toArray] w (TrueQ w) := by
  refine ret_of (fun _ _ => sh_landfalllaw15_ChartMoves_ok _ _ _) fun R hR => ?_
  unfold sh_landfalllaw15_ChartMoves
  refine box_i fun g w1 x1 hat1 hg1 _ => ?_
  refine box_i fun b4 w2 x2 hat2 hb2 _ => ?_
  refine box_i fun b5 w2' x2' hat5 hb5 _ => ?_
  have x02 := (x1.trans x2).trans x2'
  refine callF_ret (head15_ret w2' (hT.ext x02)) ?_
  rintro _ w3 ⟨rfl, x3⟩
  have x03 := x02.trans x3
  have hc3 := hc.ext x03
  have hg : ∀ V, Ext w3 V → Has V g 0 s.cells := fun V y => has_of_at ((hat1.ext ((x2.trans x2').trans x3)).ext y)
  have hl : ∀ V, Ext w3 V → Has V b4 0 x.cells := fun V y => has_of_at ((hat2.ext (x2'.trans x3)).ext y)
  have hh : ∀ V, Ext w3 V → Has V b5 0 b.cells := fun V y => has_of_at ((hat5.ext x3).ext y)
  refine join0 (fun W => Ext w3 W ∧ GoodC C ∧ Hul.place x = true ∧ Hul.place b = true) ?_ fun K hK => ?_
  · rintro _ W ⟨xW, hG, hpx, hpb⟩
    obtain ⟨_, hw, hhh, hz, hwh, hmax, hp0, _⟩ := id hG.1
    have p0 := Hul.place_iff.1 hp0
    have px := Hul.place_iff.1 hpx
    have pb := Hul.place_iff.1 hpb
    simp only at p0
    rw [SPoint.g_x (hl W xW), SPoint.g_x (hh W xW), bin_add, i64_wrap (by omega) (by omega), SPoint.g_y (hl W xW), SPoint.g_y (hh W xW), bin_add, i64_wrap (by omega) (by omega), build_i (new_pt15 _ _)]
    refine pt_new fun b8 w4 x4 hat8 => ?_
    have x34 := xW.trans x4
    rw [SChart.g_all (hg w4 x34)]
    refine chart_new fun b9 w5 x5 hat9 hb9 => ?_
    have x35 := x34.trans x5
    have l9 := hat9.lt
    have z34 := x34.size
    have l1 := ((hat1.ext ((x2.trans x2').trans x3)).ext x34).lt
    have l5 := ((hat5.ext x3).ext x34).lt
    have l8 := hat8.lt
    let s' : SChart := { s with x := C.x + b.x }
    refine draw_turn b9 (.cells s.cells.toArray 26 (0, 0)) (.cells s'.cells.toArray 26 (0, 0)) fun w6 x6 => ?_
    have a9 := hat9.ext x6
    have ag := (hat1.ext ((x2.trans x2').trans x3)).ext (x35.trans x6)
    have ab := (hat5.ext x3).ext (x35.trans x6)
    have kg : ∀ V, Turn b9 (.cells s.cells.toArray 26 (0, 0)) (.cells s'.cells.toArray 26 (0, 0)) w6 V → Has V g 0 s.cells := fun V k => has_of_at (ag.mod k.1 (by omega))
    have kb : ∀ V, Turn b9 (.cells s.cells.toArray 26 (0, 0)) (.cells s'.cells.toArray 26 (0, 0)) w6 V → Has V b5 0 b.cells := fun V k => has_of_at (ab.mod k.1 (by omega))
    refine det_turn _ (fun V k K => Ty.SChart_f1) ?_
    refine det_turn (.int .i64 C.x) (fun V k K => by rw [← hc.x]; exact load_cell Ty.int_agg (has_at (kg V k) (d := 1) rfl rfl)) ?_
    refine det_turn _ (fun V k K => Ty.SPoint_f0) ?_
    refine det_turn (.int .i64 b.x) (fun V k K => load_cell Ty.int_agg (has_at (kb V k) (d := 0) rfl rfl)) ?_
    refine det_turn (.int .i64 (C.x + b.x)) (fun V k K => by rw [bin_add, i64_wrap (by omega) (by omega)]) ?_
    refine det_turn _ (fun V k K => Ty.SChart_f2) ?_
    refine det_turn (.int .i64 C.y) (fun V k K => by rw [← hc.y]; exact load_cell Ty.int_agg (has_at (kg V k) (d := 2) rfl rfl)) ?_
    refine det_turn _ (fun V k K => Ty.SPoint_f1) ?_
    refine det_turn (.int .i64 b.y) (fun V k K => load_cell Ty.int_agg (has_at (kb V k) (d := 1) rfl rfl)) ?_
    refine det_turn (.int .i64 (C.y + b.y)) (fun V k K => by rw [bin_add, i64_wrap (by omega) (by omega)]) ?_
    refine det_turn _ (fun V k K => Ty.SChart_f1) ?_
    refine ⟨undef, fun V => At V b9 (.cells s'.cells.toArray 26 (0, 0)), fun _ _ h k => k.2.2 h, fun V k => ?_, ?_⟩
    · rcases k.2.1 a9 with h | h
      · refine store_i (o := 1) (cs := s.cells.toArray) Ty.int_size h (by show 0 + 1 < 9; omega) rfl fun V2 m2 hat2 _ => ?_
        exact ⟨rfl, ⟨m2, fun _ => .inr hat2, fun _ => hat2⟩, hat2⟩
      · refine store_i (o := 1) (cs := s'.cells.toArray) Ty.int_size h (by show 0 + 1 < 9; omega) rfl fun V2 m2 hat2 _ => ?_
        exact ⟨rfl, ⟨m2, fun _ => .inr hat2, fun _ => hat2⟩, hat2⟩
    intro w7 k7 hψ
    have a9' := hψ.2
    refine SChart.s_y (x := C.y + b.y) a9' fun w8 m8 hat98 s8 => ?_
    have m58 : Mod (· = b9) w6 w8 := k7.1.trans m8
    have z48 := m58.size
    have z46 := x6.size
    have x48 : Ext w4 w8 := ((Mod.of_ext (x5.trans x6) : Mod (w4.heap.size ≤ ·) w4 w6).comp m58 (fun _ _ h => h) (fun k hk h => by omega)).new
    have x38 := x34.trans x48
    have hcD : ∀ V, Ext w8 V → ChartIs V { s' with y := C.y + b.y } (moved C b) := fun V y => by
      have q := hc3.ext (x38.trans y)
      exact ⟨q.ver, rfl, rfl, q.w, q.h, q.size, q.cells, q.beacons, q.lines⟩
    have h9 : ∀ V, Ext w8 V → Has V b9 0 ({ s' with y := C.y + b.y } : SChart).cells := fun V y => has_of_at (hat98.ext y)
    have h8 : ∀ V, Ext w8 V → Has V b8 0 (SPoint.mk (x.x + b.x) (x.y + b.y)).cells := fun V y => has_of_at ((hat8.ext x48).ext y)
    have hokD : ChartOk (moved C b) := ⟨⟨hok.nums.1, ⟨by show _ ≤ C.x + b.x; omega, by show C.x + b.x ≤ _; omega⟩, ⟨by show _ ≤ C.y + b.y; omega, by show C.y + b.y ≤ _; omega⟩, hok.nums.2.2.2⟩, hok.cells, hok.beacons, hok.lines⟩
    refine join0 (fun U => Ext w8 U ∧ GoodC (moved C b) ∧ Hul.place ⟨x.x + b.x, x.y + b.y⟩ = true) ?_ fun K2 hK2 => ?_
    · rintro _ U ⟨xU, hGD, hpD⟩
      have x3U := x38.trans xU
      rw [SChart.g_all (hg U x3U), SPoint.g_all (hl U x3U)]
      refine callF_ret (chAt_ret U (hc3.ext x3U) hok hxo) ?_
      rintro _ U2 ⟨rfl, y2⟩
      have e0 := (at_props hG hpx).1
      rw [ext3_0, ext3_1, ext3_2, SChart.g_all (h9 U2 (xU.trans y2)), SPoint.g_all (h8 U2 (xU.trans y2))]
      refine callF_ret (chAt_ret U2 (hcD U2 (xU.trans y2)) hokD ⟨⟨by simp only; omega, by simp only; omega⟩, ⟨by simp only; omega, by simp only; omega⟩⟩) ?_
      rintro _ U3 ⟨rfl, y3⟩
      rw [at_move hG hGD hpx hpD, ext3_0, ext3_1, ext3_2, e0]
      refine gd_t ?_
      rw [bin_eql]; refine gd_d rfl ?_
      rw [bin_eql]; refine gd_d rfl ?_
      rw [bin_eql]; refine gd_d rfl ?_
      rw [eql_bool15]
      exact hR _ _ ⟨by rw [decide_eq_true rfl], ((x03.trans x3U).trans y2).trans y3⟩
    · refine join1 (fun y V => ∃ t, y = .bool t ∧ Ext w8 V ∧ (t = false → GoodC (moved C b) ∧ Hul.place ⟨x.x + b.x, x.y + b.y⟩ = true)) ?_ fun K3 hK3 => ?_
      · rintro h2 _ V hx2 ⟨t, rfl, xV, hf⟩
        rw [hx2]
        exact Br_i (fun hb => hR _ _ ⟨rfl, (x03.trans x38).trans xV⟩) fun hb => hK2 _ ⟨xV, hf hb⟩
      rw [SChart.g_all (h9 w8 (Ext.refl _))]
      refine callF_ret (refChValid_ret w8 (hcD w8 (Ext.refl _))) ?_
      rintro _ w9 ⟨rfl, x9⟩
      rw [un_not]
      refine Gd_i (fun b1 => ?_) fun hb => hK3 _ _ ⟨true, rfl, x9, fun ht => (by cases ht)⟩
      rw [SPoint.g_all (h8 w9 x9)]
      refine callF_ret (Place_ret w9) ?_
      rintro _ w10 ⟨rfl, x10⟩
      rw [un_not]
      exact hK3 _ _ ⟨_, rfl, x9.trans x10, fun ht' => ⟨valid_iff.1 (nd b1), nd ht'⟩⟩
  · refine join1 (fun y V => ∃ t, y = .bool t ∧ Ext w3 V ∧ (t = false → GoodC C ∧ Hul.place x = true ∧ Hul.place b = true)) ?_ fun K3 hK3 => ?_
    · rintro h2 _ V hx2 ⟨t, rfl, xV, hf⟩
      rw [hx2]
      exact Br_i (fun hb => hR _ _ ⟨rfl, x03.trans xV⟩) fun hb => hK _ ⟨xV, hf hb⟩
    rw [SChart.g_all (hg w3 (Ext.refl _))]
    refine callF_ret (usable_ret w3 hc3) ?_
    rintro _ w6 ⟨⟨t, rfl, ht⟩, x6⟩
    rw [un_not]
    refine Gd_i (fun b1 => ?_) fun hb => hK3 _ _ ⟨true, rfl, x6, fun ht => (by cases ht)⟩
    rw [SPoint.g_all (hl w6 x6)]
    refine callF_ret (Place_ret w6) ?_
    rintro _ w7 ⟨rfl, x7⟩
    have x37 := x6.trans x7
    rw [un_not]
    refine Gd_i (fun b2 => ?_) fun hb => hK3 _ _ ⟨true, rfl, x37, fun ht => (by cases ht)⟩
    rw [SPoint.g_all (hh w7 x37)]
    refine callF_ret (Place_ret w7) ?_
    rintro _ w8 ⟨rfl, x8⟩
    rw [un_not]
    exact hK3 _ _ ⟨_, rfl, x37.trans x8, fun ht' => ⟨(ht.1 (nd b1)).2, nd b2, nd ht'⟩⟩
end Go.Proofs.YtdfpdfahcbflpabDoor
