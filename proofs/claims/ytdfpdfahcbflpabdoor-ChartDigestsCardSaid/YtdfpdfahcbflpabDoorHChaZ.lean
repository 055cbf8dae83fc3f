/- chart.under: the cells of a rectangle, one after the other. -/
import Derived.Test.YtdfpdfahcbflpabDoorHChaY
set_option linter.unusedVariables false
set_option linter.unusedSimpArgs false
namespace Go.Proofs.YtdfpdfahcbflpabDoor
set_option maxRecDepth 100000
set_option maxHeartbeats 16000000
open Sh Go.RowKit
namespace Cha
def col (f z v : Int) : Int := if v < f then -1 else (v - f) / z
def lox (C : Cht) (lo : SPoint) : Int := mx 0 (col C.x C.size lo.x)
def loy (C : Cht) (lo : SPoint) : Int := mx 0 (col C.y C.size lo.y)
def hix (C : Cht) (hi : SPoint) : Int := mn (C.w - 1) (col C.x C.size hi.x)
def hiy (C : Cht) (hi : SPoint) : Int := mn (C.h - 1) (col C.y C.size hi.y)
def nx (C : Cht) (lo hi : SPoint) : Nat := (hix C hi + 1 - lox C lo).toNat
def ny (C : Cht) (lo hi : SPoint) : Nat := (hiy C hi + 1 - loy C lo).toNat
def ucell (C : Cht) (lo hi : SPoint) (k : Nat) : Int := (loy C lo + (k / nx C lo hi : Nat)) * C.w + (lox C lo + (k % nx C lo hi : Nat))
def under (C : Cht) (lo hi : SPoint) : List Int := (List.range (ny C lo hi * nx C lo hi)).map (ucell C lo hi)
theorem mx_le {a b : Int} : a ≤ mx a b ∧ b ≤ mx a b ∧ (mx a b = a ∨ mx a b = b) := by unfold mx; split <;> simp <;> omega
theorem mn_le {a b : Int} : mn a b ≤ a ∧ mn a b ≤ b ∧ (mn a b = a ∨ mn a b = b) := by unfold mn; split <;> simp <;> omega
theorem col_bnd {f z v : Int} (hf : -10000000 ≤ f ∧ f ≤ 10000000) (hv : -10000000 ≤ v ∧ v ≤ 10000000) (hz : 1 ≤ z) : -1 ≤ col f z v ∧ col f z v ≤ 20000000 := by
  unfold col
  split
  · omega
  · have h1 : 0 ≤ (v - f) / z := Int.ediv_nonneg (by omega) (by omega)
    have h2 : (v - f) / z ≤ v - f := Int.ediv_le_self _ (by omega)
    omega
end Cha
def Same5 (s : SChart) (C : Cht) : Prop := s.x = C.x ∧ s.y = C.y ∧ s.w = C.w ∧ s.h = C.h ∧ s.size = C.size
theorem ChartIs.same5 {W : World} {s : SChart} {C : Cht} (h : ChartIs W s C) : Same5 s C := ⟨h.x, h.y, h.w, h.h, h.size⟩
def UnderRd (g b1 b2 : Nat) (s : SChart) (lo hi : SPoint) (W : World) : Prop := At W g (.cells s.cells.toArray 26 (0, 0)) ∧ At W b1 (.cells lo.cells.toArray 31 (0, 0)) ∧ At W b2 (.cells hi.cells.toArray 31 (0, 0))
open Cha in
theorem under_seq {s : SChart} {C : Cht} {lo hi : SPoint} {g b1 b2 : Nat} (hs : Same5 s C) (hF : FrameP C) (hlo : Hul.place lo = true) (hhi : Hul.place hi = true) :
    SeqOf Tryd.prog (.func (.func 51) #[] #[.pointer (some ⟨g, 0, none⟩), .pointer (some ⟨b1, 0, none⟩), .pointer (some ⟨b2, 0, none⟩)]) (ny C lo hi * nx C lo hi) (fun k => [.int .i64 (ucell C lo hi k)]) (UnderRd g b1 b2 s lo hi) := by
  refine ⟨_, _, rfl, by kernel_rfl, fun y I S w1 h0 hI hRd hS hy => ?_⟩
  refine callF_sh (fun _ _ => sh_chart_under_1_ok y (.pointer (some ⟨g, 0, none⟩)) (.pointer (some ⟨b1, 0, none⟩)) (.pointer (some ⟨b2, 0, none⟩))) fun R hR => ?_
  unfold sh_chart_under_1
  obtain ⟨ex, ey, ew, eh, ez⟩ := hs
  obtain ⟨_, hw, hh, hz, _, _, hp0, _⟩ := hF
  have p0 := Hul.place_iff.1 hp0
  have pl := Hul.place_iff.1 hlo
  have ph := Hul.place_iff.1 hhi
  simp only at p0
  have cly := col_bnd (f := C.y) (z := C.size) (v := lo.y) (by omega) (by omega) hz.1
  have chy := col_bnd (f := C.y) (z := C.size) (v := hi.y) (by omega) (by omega) hz.1
  have clx := col_bnd (f := C.x) (z := C.size) (v := lo.x) (by omega) (by omega) hz.1
  have chx := col_bnd (f := C.x) (z := C.size) (v := hi.x) (by omega) (by omega) hz.1
  have ly : 0 ≤ loy C lo ∧ loy C lo ≤ 20000000 := by unfold loy; have := @mx_le 0 (col C.y C.size lo.y); omega
  have lx : 0 ≤ lox C lo ∧ lox C lo ≤ 20000000 := by unfold lox; have := @mx_le 0 (col C.x C.size lo.x); omega
  have hy1 : hiy C hi ≤ C.h - 1 := by unfold hiy; exact mn_le.1
  have hx1 : hix C hi ≤ C.w - 1 := by unfold hix; exact mn_le.1
  have q0 := hRd _ _ h0
  rw [SChart.g_y (has_of_at q0.1), SChart.g_size (has_of_at q0.1), SPoint.g_y (has_of_at q0.2.1), ey, ez]
  refine callF_ret (column_ret (f := C.y) (z := C.size) (v := lo.y) (by omega) (by omega) hz w1) ?_
  rintro _ w2 ⟨rfl, x2⟩
  rw [max2]
  refine loop2 (fun y _ W => ∃ j : Nat, j ≤ ny C lo hi ∧ y = .int .i64 (loy C lo + j) ∧ I (j * nx C lo hi) W) (fun y _ _ => (ny C lo hi + loy C lo - intOf y).toNat) ⟨0, by omega, by simp [loy, col], by rw [Nat.zero_mul]; exact hI _ _ _ h0 x2⟩ ?_
  rintro h9 yv _ W hyv _ ⟨j, hj, rfl, hIj⟩ K hK
  refine draw_ext fun w4 x4 => ?_
  have qW := hRd _ _ hIj
  have g0 : ∀ V, Ext w4 V → Has V g 0 s.cells := fun V x => has_of_at ((qW.1.ext x4).ext x)
  have g2 : ∀ V, Ext w4 V → Has V b2 0 hi.cells := fun V x => has_of_at ((qW.2.2.ext x4).ext x)
  refine det_read _ (fun V x K => Ty.SChart_f4) ?_
  refine det_read (.int .i64 C.h) (fun V x K => by rw [← eh]; exact load_cell Ty.int_agg (has_at (g0 V x) (d := 4) rfl rfl)) ?_
  refine det_read (.int .i64 (C.h - 1)) (fun V x K => by rw [bin_sub, i64_wrap (by omega) (by omega)]) ?_
  refine det_read _ (fun V x K => Ty.SChart_f2) ?_
  refine det_read (.int .i64 C.y) (fun V x K => by rw [← ey]; exact load_cell Ty.int_agg (has_at (g0 V x) (d := 2) rfl rfl)) ?_
  refine det_read _ (fun V x K => Ty.SChart_f5) ?_
  refine det_read (.int .i64 C.size) (fun V x K => by rw [← ez]; exact load_cell Ty.int_agg (has_at (g0 V x) (d := 5) rfl rfl)) ?_
  refine det_read _ (fun V x K => Ty.SPoint_f1) ?_
  refine det_read (.int .i64 hi.y) (fun V x K => load_cell Ty.int_agg (has_at (g2 V x) (d := 1) rfl rfl)) ?_
  refine det_ret _ (fun V x => column_ret (f := C.y) (z := C.size) (v := hi.y) (by omega) (by omega) hz V) ?_
  refine det_read (.int .i64 (hiy C hi)) (fun V x K => min2) ?_
  intro w5 x5 _
  have hIj5 := hI _ _ _ hIj (x4.trans x5)
  rw [hyv, bin_leq]
  refine Br_i (fun hb => ?_) fun hb => ?_
  · have hb1 := dec_t hb
    have hjlt : j < ny C lo hi := by unfold ny; omega
    have q5 := hRd _ _ hIj5
    rw [SChart.g_x (has_of_at q5.1), SChart.g_size (has_of_at q5.1), SPoint.g_x (has_of_at q5.2.1), ex, ez]
    refine callF_ret (column_ret (f := C.x) (z := C.size) (v := lo.x) (by omega) (by omega) hz w5) ?_
    rintro _ w6 ⟨rfl, x6⟩
    rw [max2]
    refine loop1 (fun x W => ∃ i : Nat, i ≤ nx C lo hi ∧ x = .int .i64 (lox C lo + i) ∧ I (j * nx C lo hi + i) W) (fun x _ => (nx C lo hi + lox C lo - intOf x).toNat) ⟨0, by omega, by simp [lox, col], hI _ _ _ hIj5 x6⟩ ?_
    rintro h32 xv U hxv ⟨i, hi', rfl, hIi⟩ K2 hK2
    refine draw_ext fun w7 x7 => ?_
    have qU := hRd _ _ hIi
    have g0 : ∀ V, Ext w7 V → Has V g 0 s.cells := fun V x => has_of_at ((qU.1.ext x7).ext x)
    have g2 : ∀ V, Ext w7 V → Has V b2 0 hi.cells := fun V x => has_of_at ((qU.2.2.ext x7).ext x)
    refine det_read _ (fun V x K => Ty.SChart_f3) ?_
    refine det_read (.int .i64 C.w) (fun V x K => by rw [← ew]; exact load_cell Ty.int_agg (has_at (g0 V x) (d := 3) rfl rfl)) ?_
    refine det_read (.int .i64 (C.w - 1)) (fun V x K => by rw [bin_sub, i64_wrap (by omega) (by omega)]) ?_
    refine det_read _ (fun V x K => Ty.SChart_f1) ?_
    refine det_read (.int .i64 C.x) (fun V x K => by rw [← ex]; exact load_cell Ty.int_agg (has_at (g0 V x) (d := 1) rfl rfl)) ?_
    refine det_read _ (fun V x K => Ty.SChart_f5) ?_
    refine det_read (.int .i64 C.size) (fun V x K => by rw [← ez]; exact load_cell Ty.int_agg (has_at (g0 V x) (d := 5) rfl rfl)) ?_
    refine det_read _ (fun V x K => Ty.SPoint_f0) ?_
    refine det_read (.int .i64 hi.x) (fun V x K => load_cell Ty.int_agg (has_at (g2 V x) (d := 0) rfl rfl)) ?_
    refine det_ret _ (fun V x => column_ret (f := C.x) (z := C.size) (v := hi.x) (by omega) (by omega) hz V) ?_
    refine det_read (.int .i64 (hix C hi)) (fun V x K => min2) ?_
    intro w8 x8 _
    have hIi8 := hI _ _ _ hIi (x7.trans x8)
    rw [hxv, bin_leq]
    refine Br_i (fun hb2 => ?_) fun hb2 => ?_
    · have hb3 := dec_t hb2
      have hilt : i < nx C lo hi := by unfold nx; omega
      have q8 := hRd _ _ hIi8
      have m1 : 0 ≤ (loy C lo + j) * C.w := Int.mul_nonneg (by omega) (by omega)
      have m2 : (loy C lo + j) * C.w ≤ 4000 * 4000 := Int.mul_le_mul (by omega) (by omega) (by omega) (by omega)
      rw [SChart.g_w (has_of_at q8.1), ew, bin_mul, i64_wrap (by omega) (by omega), bin_add, i64_wrap (by omega) (by omega)]
      have e : (loy C lo + j) * C.w + (lox C lo + i) = ucell C lo hi (j * nx C lo hi + i) := by
        unfold ucell
        rw [Nat.mul_comm, Nat.mul_add_div (by omega), Nat.mul_add_mod, Nat.div_eq_of_lt hilt, Nat.mod_eq_of_lt hilt, Nat.add_zero]
      rw [e]
      have hklt : j * nx C lo hi + i < ny C lo hi * nx C lo hi := by
        have h1 : (j + 1) * nx C lo hi ≤ ny C lo hi * nx C lo hi := Nat.mul_le_mul_right _ hjlt
        rw [Nat.add_mul, Nat.one_mul] at h1; omega
      refine hy (j * nx C lo hi + i) w8 _ _ hklt hIi8 (fun W6 h6 => ?_) fun W6 h6 => ?_
      · rw [un_not]
        refine br_f ?_
        rw [bin_add, i64_wrap (by omega) (by omega)]
        exact hK2 _ _ ⟨i + 1, by omega, by simp; omega, h6⟩ (by simp [intOf]; omega)
      · rw [un_not]
        exact br_t (hR _ _ (.inr h6))
    · have hb3 := dec_f hb2
      have hie : i = nx C lo hi := by unfold nx at hi' ⊢; omega
      rw [bin_add, i64_wrap (by omega) (by omega)]
      refine hK _ _ _ ⟨j + 1, by omega, by simp; omega, ?_⟩ (by simp [intOf]; omega)
      rw [Nat.add_mul, Nat.one_mul]
      rw [hie] at hIi8
      exact hIi8
  · have hb1 := dec_f hb
    have hje : j = ny C lo hi := by unfold ny at hj ⊢; omega
    rw [hje] at hIj5
    exact hR _ _ (.inl hIj5)
end Go.Proofs.YtdfpdfahcbflpabDoor
