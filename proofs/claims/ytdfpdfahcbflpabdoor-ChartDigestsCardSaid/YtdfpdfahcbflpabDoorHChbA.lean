/- chart.under, At and Touched. -/
import Derived.Test.YtdfpdfahcbflpabDoorHChaZ
set_option linter.unusedVariables false
set_option linter.unusedSimpArgs false
namespace Go.Proofs.YtdfpdfahcbflpabDoor
set_option maxRecDepth 100000
set_option maxHeartbeats 16000000
open Sh Go.RowKit
theorem Ty.int_zero15 (w : World) : (zeroValue 3).run Tryd.prog w = .ok (.int .i64 0) w := by kernel_rfl
theorem Ty.bool_zero15 (w : World) : (zeroValue 4).run Tryd.prog w = .ok (.bool false) w := by kernel_rfl
theorem Ty.errno_zero15 (w : World) : (zeroValue 34).run Tryd.prog w = .ok (.int .i64 0) w := by kernel_rfl
theorem Ty.errno_size15 (w : World) : (sizeOf 34).run Tryd.prog w = .ok 1 w := by kernel_rfl
theorem Ty.errno_agg15 (w : World) : (isAgg 34).run Tryd.prog w = .ok false w := by kernel_rfl
theorem under_ret {s : SChart} {lo hi : SPoint} (w : World) : Ret Tryd.prog 38 #[.agg s.cells.toArray, .agg lo.cells.toArray, .agg hi.cells.toArray] w fun r w' =>
    (∃ g b1 b2, r = .func (.func 51) #[] #[.pointer (some ⟨g, 0, none⟩), .pointer (some ⟨b1, 0, none⟩), .pointer (some ⟨b2, 0, none⟩)] ∧ UnderRd g b1 b2 s lo hi w') ∧ Ext w w' := by
  refine ret_of (fun _ _ => sh_chart_under_ok _ _ _) fun R hR => ?_
  unfold sh_chart_under
  refine box_i fun g w1 x1 hat1 _ _ => ?_
  refine box_i fun b1 w2 x2 hat2 _ _ => ?_
  refine box_i fun b2 w3 x3 hat3 _ _ => ?_
  rw [mk_func]
  exact hR _ _ ⟨⟨g, b1, b2, rfl, (hat1.ext x2).ext x3, hat2.ext x3, hat3⟩, (x1.trans x2).trans x3⟩
def Abe (b4 b5 b6 : Nat) (k : Nat) : Prop := k = b4 ∨ k = b5 ∨ k = b6
def At3 (b4 b5 b6 : Nat) (i : Int) (c : Bool) (e : Int) (W : World) : Prop := At W b4 (.cells #[.int .i64 i] 3 (0, 0)) ∧ At W b5 (.cells #[.bool c] 4 (0, 0)) ∧ At W b6 (.cells #[.int .i64 e] 34 (0, 0))
theorem At3.ext {b4 b5 b6 : Nat} {i e : Int} {c : Bool} {a b : World} (h : At3 b4 b5 b6 i c e a) (x : Ext a b) : At3 b4 b5 b6 i c e b := ⟨h.1.ext x, h.2.1.ext x, h.2.2.ext x⟩
theorem At3.mod {b4 b5 b6 : Nat} {i e : Int} {c : Bool} {a b : World} {S : Nat → Prop} (h : At3 b4 b5 b6 i c e a) (x : Mod S a b) (h4 : ¬ S b4) (h5 : ¬ S b5) (h6 : ¬ S b6) : At3 b4 b5 b6 i c e b := ⟨h.1.mod x h4, h.2.1.mod x h5, h.2.2.mod x h6⟩
theorem st3 {w : World} {b4 b5 b6 : Nat} {i0 e0 i e : Int} {c0 c : Bool} {K : World → Prop} {X1 X2 X3 : List PanicEntry → World → Prop} (h : At3 b4 b5 b6 i0 c0 e0 w) (h45 : b4 ≠ b5) (h46 : b4 ≠ b6) (h56 : b5 ≠ b6)
    (hk : ∀ W, Mod (Abe b4 b5 b6) w W → At3 b4 b5 b6 i c e W → W.heap.size = w.heap.size → K W) :
    DoU Tryd.prog (Instr.storeAt 3 (.pointer (some ⟨b4, 0, none⟩)) (.int .i64 i)) w (fun _ w1 => DoU Tryd.prog (Instr.storeAt 4 (.pointer (some ⟨b5, 0, none⟩)) (.bool c)) w1 (fun _ w2 => DoU Tryd.prog (Instr.storeAt 34 (.pointer (some ⟨b6, 0, none⟩)) (.int .i64 e)) w2 (fun _ w3 => K w3) X3) X2) X1 := by
  refine store_i Ty.int_size h.1 (by simp) rfl fun w1 m1 a1 s1 => ?_
  refine store_i Ty.bool_size (h.2.1.mod m1 h45.symm) (by simp) rfl fun w2 m2 a2 s2 => ?_
  refine store_i Ty.errno_size15 ((h.2.2.mod m1 h46.symm).mod m2 h56.symm) (by simp) rfl fun w3 m3 a3 s3 => ?_
  refine hk w3 (((m1.mono fun _ _ h => .inl h).trans (m2.mono fun _ _ h => .inr (.inl h))).trans (m3.mono fun _ _ h => .inr (.inr h))) ⟨(a1.mod m2 h45).mod m3 h46, a2.mod m3 h56, a3⟩ (by omega)
theorem res3 {w : World} {b4 b5 b6 : Nat} {i e : Int} {c : Bool} {R : Ending → World → Prop} (h : At3 b4 b5 b6 i c e w) (hR : R (.returned (.tuple #[.int .i64 i, .bool c, .int .i64 e])) w) :
    Res Tryd.prog [.cell (.pointer (some ⟨b4, 0, none⟩)) 3, .cell (.pointer (some ⟨b5, 0, none⟩)) 4, .cell (.pointer (some ⟨b6, 0, none⟩)) 34] w R :=
  res_i (rv_cell (loadVar_at Ty.int_agg h.1 rfl) (rv_cell (loadVar_at Ty.bool_agg h.2.1 rfl) (rv_cell (loadVar_at Ty.errno_agg15 h.2.2 rfl) (rv_nil _)))) hR
namespace Cha
noncomputable def atV (C : Cht) (x : SPoint) : Int × Bool × Int :=
  if valid C = true ∧ Hul.place x = true then (match under C x x with | [] => (0, false, 0) | i :: _ => (i, true, 0)) else (0, false, 1)
theorem under_get {C : Cht} {lo hi : SPoint} {k : Nat} (h : k < ny C lo hi * nx C lo hi) : (under C lo hi)[k]? = some (ucell C lo hi k) := by simp [under, h]
theorem under_len (C : Cht) (lo hi : SPoint) : (under C lo hi).length = ny C lo hi * nx C lo hi := by simp [under]
end Cha
open Cha in
theorem chAt_ret {s : SChart} {C : Cht} {x : SPoint} (w : World) (hc : ChartIs w s C) (hok : ChartOk C) (hx : x.Ok) : Ret Tryd.prog 17 #[.agg s.cells.toArray, .agg x.cells.toArray] w fun r w' => r = .tuple #[.int .i64 (atV C x).1, .bool (atV C x).2.1, .int .i64 (atV C x).2.2] ∧ Ext w w' := by
  refine ret_of (fun _ _ => sh_chart_At_ok _ _) fun R hR => ?_
  unfold sh_chart_At
  refine box_i fun g w1 x1 hat1 hg1 _ => ?_
  refine box_i fun b w2 x2 hat2 hb2 _ => ?_
  refine alloc_i Ty.int_zero15 fun b4 w3 x3 hat4 hb4 _ => ?_
  refine alloc_i Ty.bool_zero15 fun b5 w4 x4 hat5 hb5 _ => ?_
  refine alloc_i Ty.errno_zero15 fun b6 w5 x5 hat6 hb6 s6 => ?_
  have x12 := x1.trans x2
  have x25 := (x3.trans x4).trans x5
  have x05 := x12.trans x25
  have z1 := x1.size
  have z2 := x2.size
  have z3 := x3.size
  have z4 := x4.size
  have a1 := (hat1.ext x2).ext x25
  have a2 := hat2.ext x25
  have A5 : At3 b4 b5 b6 0 false 0 w5 := ⟨(hat4.ext x4).ext x5, hat5.ext x5, hat6⟩
  have l1 := hat1.lt
  have l2 := hat2.lt
  have l4 := hat4.lt
  have l5 := hat5.lt
  have l6 := hat6.lt
  have hc5 := hc.ext x05
  refine join0 (fun W => Ext w5 W ∧ valid C = true ∧ Hul.place x = true) ?_ fun K hK => ?_
  · rintro _ W ⟨xW, hv, hp⟩
    have hG := valid_iff.1 hv
    rw [SChart.g_all (has_of_at (a1.ext xW)), SPoint.g_all (has_of_at (a2.ext xW)), SPoint.g_all (has_of_at (a2.ext xW))]
    refine callF_ret (under_ret W) ?_
    rintro _ w6 ⟨⟨g6, b1, b2, rfl, hrd⟩, x6⟩
    have x56 := xW.trans x6
    have z6 := x56.size
    have A6 := A5.ext x56
    have m0 : Mod (w.heap.size ≤ ·) w w6 := .of_ext (x05.trans x56)
    refine range_seq (under_seq hc.same5 hG.1 hp hp) (fun k _ => rfl) (fun k V => Ext w6 V ∧ w6.heap.size + 2 ≤ V.heap.size ∧ k = 0)
      (fun e V => e = .ret ∧ 0 < ny C x x * nx C x x ∧ w6.heap.size + 2 ≤ V.heap.size ∧ Mod (Abe b4 b5 b6) w6 V ∧ At3 b4 b5 b6 (ucell C x x 0) true 0 V)
      (fun V xV zV => ⟨xV, zV, rfl⟩) (fun k V h => h.2.1) (fun e V h => h.2.2.1)
      (fun k a b h he => ⟨h.1.trans he, by have := he.size; omega, h.2.2⟩)
      (fun e a b h he => ⟨h.1, h.2.1, by have := he.size; have := h.2.2.1; omega, h.2.2.2.1.trans (.of_ext he), h.2.2.2.2.ext he⟩)
      (fun k V h => ⟨hrd.1.ext h.1, hrd.2.1.ext h.1, hrd.2.2.ext h.1⟩) (fun e V h => .inl h.1) ?_ ?_ ?_ (fun p hp => by cases hp)
    · rintro k V Q hk ⟨xV, zV, rfl⟩ hQn hQe
      refine ⟨KeepL.of_ext (Ext.refl _) (by omega), fun o25 => ?_⟩
      have m5 := Mod.putObj V (w6.heap.size + 1) o25
      have hs5 : (V.putObj (w6.heap.size + 1) o25).heap.size = V.heap.size := by simp
      generalize V.putObj (w6.heap.size + 1) o25 = V5 at *
      have AV := (A6.ext xV).mod m5 (by omega) (by omega) (by omega)
      refine st3 (i := ucell C x x 0) (c := true) (e := 0) AV (by omega) (by omega) (by omega) fun V6 m6 A7 s7 => ?_
      refine round_end (S := Abe b4 b5 b6) m6 (by omega) (by unfold Abe; omega) (by unfold Abe; omega) fun V7 m7 s8 => ?_
      refine hQe .ret V7 ⟨rfl, hk, by omega, ?_, A7.mod m7 (by omega) (by omega) (by omega)⟩
      have q1 : Mod (Abe b4 b5 b6) w6 V5 := (Mod.of_ext xV : Mod (Abe b4 b5 b6) w6 V).comp m5 (fun _ _ h => h) (fun i hi h => by omega)
      exact (q1.trans m6).comp m7 (fun _ _ h => h) (fun i hi h => by omega)
    · rintro V ⟨xV, zV, hn⟩ V' m' hs' hD
      have A7 := (A6.ext xV).mod m' (by omega) (by omega) (by omega)
      refine st3 (i := 0) (c := false) (e := 0) A7 (by omega) (by omega) (by omega) fun V6 m6 A8 s7 => ?_
      refine mark_i (hD.mod m6 (by unfold Abe; omega)) fun U' m2 hs2 => ?_
      refine res3 (A8.mod m2 (by omega) (by omega) (by omega)) (hR _ _ ⟨?_, ?_⟩)
      · have e : under C x x = [] := List.eq_nil_of_length_eq_zero (by rw [under_len]; exact hn)
        unfold atV
        rw [if_pos ⟨hv, hp⟩, e]
      · exact (((m0.trans (.of_ext xV)).trans (m'.mono fun k _ h => by omega)).trans (m6.mono fun k _ h => by unfold Abe at h; omega) |>.trans (m2.mono fun k _ h => by omega)).new
    · rintro V ⟨_, hn, zV, mV, AV⟩ V' m' hs' hD
      refine mark_i hD fun U' m2 hs2 => ?_
      refine res3 ((AV.mod m' (by omega) (by omega) (by omega)).mod m2 (by omega) (by omega) (by omega)) (hR _ _ ⟨?_, ?_⟩)
      · have h1 := under_get hn
        unfold atV
        rw [if_pos ⟨hv, hp⟩]
        cases hu : under C x x with
        | nil => rw [hu] at h1; cases h1
        | cons i t =>
          rw [hu] at h1
          injection h1 with h1
          rw [h1]
      · exact (((m0.trans (mV.mono fun k _ h => by unfold Abe at h; omega)).trans (m'.mono fun k _ h => by omega)).trans (m2.mono fun k _ h => by omega)).new
  · refine join1 (fun y V => ∃ t, y = .bool t ∧ Ext w5 V ∧ (t = true → ¬ (valid C = true ∧ Hul.place x = true)) ∧ (t = false → valid C = true ∧ Hul.place x = true)) ?_ fun K3 hK3 => ?_
    · rintro h2 _ V hx2 ⟨t, rfl, xV, ht, hf⟩
      rw [hx2]
      refine Br_i (fun hb => ?_) fun hb => hK _ ⟨xV, hf hb⟩
      refine st3 (i := 0) (c := false) (e := 1) (A5.ext xV) (by omega) (by omega) (by omega) fun V6 m6 A8 s7 => ?_
      refine res3 A8 (hR _ _ ⟨?_, ?_⟩)
      · unfold atV
        rw [if_neg (ht hb)]
      · exact ((Mod.of_ext (x05.trans xV) : Mod (w.heap.size ≤ ·) w V).trans (m6.mono fun k _ h => by unfold Abe at h; omega)).new
    rw [SChart.g_all (has_of_at a1)]
    refine callF_ret (chValid_ret w5 hc5 hok) ?_
    rintro _ w6 ⟨rfl, x6⟩
    rw [un_not]
    refine Gd_i (fun b1 => ?_) fun hb => hK3 _ _ ⟨true, rfl, x6, fun _ hn => (by have := nf hb; rw [hn.1] at this; cases this), fun ht => (by cases ht)⟩
    rw [SPoint.g_all (has_of_at (a2.ext x6))]
    refine callF_ret (chPlace_ret hx w6) ?_
    rintro _ w7 ⟨rfl, x7⟩
    rw [un_not]
    exact hK3 _ _ ⟨_, rfl, x6.trans x7, fun ht hn => (by rw [hn.2] at ht; cases ht), fun ht => ⟨nd b1, nd ht⟩⟩
end Go.Proofs.YtdfpdfahcbflpabDoor
