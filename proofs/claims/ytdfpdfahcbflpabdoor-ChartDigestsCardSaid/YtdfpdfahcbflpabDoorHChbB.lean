/- chart.Touched. -/
import Derived.Test.YtdfpdfahcbflpabDoorHChbA
set_option linter.unusedVariables false
set_option linter.unusedSimpArgs false
namespace Go.Proofs.YtdfpdfahcbflpabDoor
set_option maxRecDepth 100000
set_option maxHeartbeats 16000000
open Sh Go.RowKit
theorem Ty.ints_zero15 (w : World) : (zeroValue 45).run Tryd.prog w = .ok (.slice none 0 0) w := by kernel_rfl
theorem Ty.ints_size15 (w : World) : (sizeOf 45).run Tryd.prog w = .ok 1 w := by kernel_rfl
theorem Ty.ints_agg15 (w : World) : (isAgg 45).run Tryd.prog w = .ok false w := by kernel_rfl
def Acc (base bo : Nat) (l : List Int) (W : World) : Prop := ∃ v, At W bo (.cells #[v] 45 (0, 0)) ∧ W.ownsRow base 3 1 v l.length (iv l)
theorem Acc.ext {base bo : Nat} {l : List Int} {a b : World} (h : Acc base bo l a) (x : Ext a b) : Acc base bo l b := by
  obtain ⟨v, h1, h2⟩ := h
  exact ⟨v, h1.ext x, Own.ext h2 x⟩
theorem Acc.mod {S : Nat → Prop} {base bo : Nat} {l : List Int} {a b : World} (h : Acc base bo l a) (x : Mod S a b) (h1 : ¬ S bo) (h2 : ∀ k, base ≤ k → ¬ S k) : Acc base bo l b := by
  obtain ⟨v, g1, g2⟩ := h
  exact ⟨v, g1.mod x h1, Own.mod g2 x fun k hk => h2 k (Own.block g2 hk).1⟩
theorem Acc.push {base bo : Nat} {l m : List Int} {x : Value} {w : World} {cs : Array Bool} {K : World → Prop} {X X1 : List PanicEntry → World → Prop} (h : Acc base bo l w) (hx : Sl w 1 x m.length (iv m)) (hl : l.length + m.length < 10000000000000) (hb : base ≤ w.heap.size)
    (hK : ∀ W, Mod (fun k => k = bo ∨ base ≤ k) w W → Acc base bo (l ++ m) W → K W) (v : Value) (hv : At w bo (.cells #[v] 45 (0, 0))) :
    CallB Tryd.prog .append #[45, 45] 45 cs #[v, x] w (fun r w1 => DoU Tryd.prog (Instr.storeAt 45 (.pointer (some ⟨bo, 0, none⟩)) r) w1 (fun _ w2 => K w2) X1) X := by
  obtain ⟨u, h1, h2⟩ := h
  have e : u = v := by unfold At at h1 hv; rw [h1] at hv; simpa using hv
  subst e
  refine app_ints h2 hx hl hb fun v' w1 ho m1 => ?_
  have hat1 := h1.mod m1 (fun e => Own.off_at h2 h1 (by decide) _ e rfl)
  refine store_i Ty.ints_size15 hat1 (by simp) (Sl.one (Sl.of_owns ho)) fun w2 m2 hat2 s2 => ?_
  refine hK w2 ((m1.mono fun k _ hk => .inr (Own.block h2 hk).1).trans (m2.mono fun k _ hk => .inl hk)) ⟨v', hat2, ?_⟩
  exact Own.mod ho m2 (Own.off_at ho hat1 (by decide))
theorem Acc.load {base bo : Nat} {l : List Int} {w : World} {K : Value → World → Prop} {X : List PanicEntry → World → Prop} (h : Acc base bo l w) (hk : ∀ v, At w bo (.cells #[v] 45 (0, 0)) → w.ownsRow base 3 1 v l.length (iv l) → K v w) : DoV Tryd.prog (Instr.loadAt 45 (.pointer (some ⟨bo, 0, none⟩))) w K X := by
  obtain ⟨v, h1, h2⟩ := h
  rw [load_e (u := v) Ty.ints_agg15 h1 rfl]
  exact hk v h1 h2
def IntsIs (w : World) (v : Value) (l : List Int) : Prop := Sl w 1 v l.length (iv l)
theorem IntsIs.ext {a b : World} {v : Value} {l : List Int} (h : IntsIs a v l) (x : Ext a b) : IntsIs b v l := Sl.ext h x
namespace Cha
def rectP (C : Cht) (lo hi : SPoint) : Prop := GoodC C ∧ Hul.place lo = true ∧ Hul.place hi = true ∧ lo.x ≤ hi.x ∧ lo.y ≤ hi.y
open Classical in
noncomputable def touchV (C : Cht) (lo hi : SPoint) : List Int × Int := if rectP C lo hi then (under C lo hi, 0) else ([], 1)
end Cha
open Cha in
theorem chTouched_ret {s : SChart} {C : Cht} {lo hi : SPoint} (w : World) (hc : ChartIs w s C) (hok : ChartOk C) (hlo : lo.Ok) (hhi : hi.Ok) : Ret Tryd.prog 20 #[.agg s.cells.toArray, .agg lo.cells.toArray, .agg hi.cells.toArray] w fun r w' => (∃ v, r = .tuple #[v, .int .i64 (touchV C lo hi).2] ∧ IntsIs w' v (touchV C lo hi).1) ∧ Ext w w' := by
  refine ret_of (fun _ _ => sh_chart_Touched_ok _ _ _) fun R hR => ?_
  unfold sh_chart_Touched
  refine box_i fun g w1 x1 hat1 hg1 _ => ?_
  refine box_i fun bl w2 x2 hat2 hb2 _ => ?_
  refine box_i fun bh w3 x3 hat3 hb3 _ => ?_
  have x13 := x2.trans x3
  have x03 := x1.trans x13
  have a1 := hat1.ext x13
  have a2 := hat2.ext x3
  have hc3 := hc.ext x03
  refine join2 (fun a b W => Ext w3 W ∧ rectP C lo hi) ?_ fun K hK => ?_
  · rintro hh _ _ W _ _ ⟨xW, hP⟩
    obtain ⟨hG, hp1, hp2, hx, hy⟩ := id hP
    refine alloc_i Ty.ints_zero15 fun bo w5 x5 hato hbo hs5 => ?_
    have x35 := xW.trans x5
    rw [SChart.g_all (has_of_at (a1.ext x35)), SPoint.g_all (has_of_at (a2.ext x35)), SPoint.g_all (has_of_at (hat3.ext x35))]
    refine callF_ret (under_ret w5) ?_
    rintro _ w6 ⟨⟨g6, b1, b2, rfl, hrd⟩, x6⟩
    have x36 := x35.trans x6
    have z6 := x36.size
    have z56 := x6.size
    have lo5 := hato.lt
    have z03 := x03.size
    have zW := xW.size
    have ho6 := hato.ext x6
    have hne1 : g6 ≠ bo := At.inj hrd.1 ho6 (by decide)
    have hne2 : b1 ≠ bo := At.inj hrd.2.1 ho6 (by decide)
    have hne3 : b2 ≠ bo := At.inj hrd.2.2 ho6 (by decide)
    have hul : (under C lo hi).length = ny C lo hi * nx C lo hi := under_len C lo hi
    have hn4 : ny C lo hi * nx C lo hi ≤ 4000 * 4000 := by
      have h1 : ny C lo hi ≤ 4000 := by
        have := hG.1.2.2.1; unfold ny hiy loy
        have e1 := @mn_le (C.h - 1) (col C.y C.size hi.y)
        have e2 := @mx_le 0 (col C.y C.size lo.y)
        omega
      have h2 : nx C lo hi ≤ 4000 := by
        have := hG.1.2.1; unfold nx hix lox
        have e1 := @mn_le (C.w - 1) (col C.x C.size hi.x)
        have e2 := @mx_le 0 (col C.x C.size lo.x)
        omega
      exact Nat.mul_le_mul h1 h2
    refine range_seq (under_seq hc.same5 hG.1 hp1 hp2) (fun k _ => rfl) (fun k V => k ≤ ny C lo hi * nx C lo hi ∧ Mod (· = bo) w6 V ∧ w6.heap.size + 2 ≤ V.heap.size ∧ Acc (w6.heap.size + 2) bo ((under C lo hi).take k) V) (fun e V => False)
      (fun V xV zV => ⟨by omega, .of_ext xV, zV, ⟨.slice none 0 0, ho6.ext xV, Own.nil _ _ _ _⟩⟩) (fun k V h => h.2.2.1) (fun e V h => h.elim)
      (fun k a b h he => ⟨h.1, h.2.1.trans (.of_ext he), by have := he.size; have := h.2.2.1; omega, h.2.2.2.ext he⟩)
      (fun e a b h he => h.elim)
      (fun k V h => ⟨hrd.1.mod h.2.1 hne1, hrd.2.1.mod h.2.1 hne2, hrd.2.2.mod h.2.1 hne3⟩) (fun e V h => h.elim) ?_ ?_ (fun V h => h.elim) (fun p hp => by cases hp)
    · rintro k V Q hk ⟨_, mV, zV, hA⟩ hQn hQe
      refine ⟨KeepL.of_ext (Ext.refl _) (by omega), fun o25 => ?_⟩
      have m5 := Mod.putObj V (w6.heap.size + 1) o25
      have hs5 : (V.putObj (w6.heap.size + 1) o25).heap.size = V.heap.size := by simp
      generalize V.putObj (w6.heap.size + 1) o25 = V5 at *
      have hA5 := hA.mod m5 (by omega) (fun k hk => by omega)
      refine hA5.load fun v hv _ => ?_
      refine lit_ints [ucell C lo hi k] rfl (by decide) (by decide) rfl fun x V6 x6' hox _ => ?_
      refine (hA5.ext x6').push (Sl.of_owns hox) (by simp; omega) (by have := x6'.size; omega) (fun V7 m7 hA7 => ?_) v (hv.ext x6')
      have m57 : Mod (fun k => k = bo ∨ w6.heap.size + 2 ≤ k) V5 V7 := (Mod.of_ext x6').trans m7
      have z7 := m57.size
      refine round_end m57 (by omega) (by omega) (by omega) fun V8 m8 s8 => ?_
      have htk : (under C lo hi).take (k + 1) = (under C lo hi).take k ++ [ucell C lo hi k] := by
        rw [List.take_add_one, under_get hk]; rfl
      refine hQn V8 ⟨by omega, ?_, by omega, ?_⟩
      · have q1 : Mod (· = bo) w6 V5 := mV.comp m5 (fun _ _ h => h) (fun i hi h => by omega)
        exact (q1.comp m57 (fun _ _ h => h) (fun i hi h => by omega)).comp m8 (fun _ _ h => h) (fun i hi h => by omega)
      · rw [htk]
        exact hA7.mod m8 (by omega) (fun k hk => by omega)
    · rintro V ⟨_, mV, zV, hA⟩ V' m' hs' hD
      have hA7 := hA.mod m' (by omega) (fun k hk => by omega)
      refine hA7.load fun v hv ho => ?_
      refine mark_i hD fun U' m2 hs2 => ?_
      rw [← hul, List.take_length] at ho
      have hs := Sl.mod (Sl.of_owns ho) m2 (fun k hk => by have := (Own.block ho hk).1; omega)
      refine hR _ _ ⟨⟨v, ?_, ?_⟩, ?_⟩
      · unfold touchV; rw [if_pos hP]
      · unfold touchV; rw [if_pos hP]; exact hs
      · exact ((((Mod.of_ext (x03.trans x36) : Mod (w.heap.size ≤ ·) w w6).trans (mV.mono fun k _ h => by omega)).trans (m'.mono fun k _ h => by omega)).trans (m2.mono fun k _ h => by omega)).new
  · refine join1 (fun y V => ∃ t, y = .bool t ∧ Ext w3 V ∧ (t = true → ¬ rectP C lo hi) ∧ (t = false → rectP C lo hi)) ?_ fun K3 hK3 => ?_
    · rintro h2 _ V hx2 ⟨t, rfl, xV, ht, hf⟩
      rw [hx2]
      refine Br_i (fun hb => hR _ _ ⟨⟨.slice none 0 0, ?_, ?_⟩, x03.trans xV⟩) fun hb => hK _ _ _ ⟨xV, hf hb⟩
      · unfold touchV; rw [if_neg (ht hb)]
      · unfold touchV; rw [if_neg (ht hb)]; exact Sl.nil _ _
    have bad : ∀ V, Ext w3 V → ¬ rectP C lo hi → K3 [.bool true] V := fun V xV hn => hK3 _ _ ⟨true, rfl, xV, fun _ => hn, fun ht => by cases ht⟩
    rw [SChart.g_all (has_of_at a1)]
    refine callF_ret (chValid_ret w3 hc3 hok) ?_
    rintro _ w6 ⟨rfl, x6⟩
    rw [un_not]
    refine Gd_i (fun b1 => ?_) fun hb => bad _ x6 fun hn => (by have := nf hb; rw [valid_iff.2 hn.1] at this; cases this)
    rw [SPoint.g_all (has_of_at (a2.ext x6))]
    refine callF_ret (chPlace_ret hlo w6) ?_
    rintro _ w7 ⟨rfl, x7⟩
    have x37 := x6.trans x7
    rw [un_not]
    refine Gd_i (fun b2 => ?_) fun hb => bad _ x37 fun hn => (by have := nf hb; rw [hn.2.1] at this; cases this)
    rw [SPoint.g_all (has_of_at (hat3.ext x37))]
    refine callF_ret (chPlace_ret hhi w7) ?_
    rintro _ w8 ⟨rfl, x8⟩
    have x38 := x37.trans x8
    rw [un_not]
    refine Gd_i (fun b3 => ?_) fun hb => bad _ x38 fun hn => (by have := nf hb; rw [hn.2.2.1] at this; cases this)
    have q2 := has_of_at (a2.ext x38)
    have q3 := has_of_at (hat3.ext x38)
    rw [SPoint.g_x q2, SPoint.g_x q3, bin_gtr]
    refine Gd_i (fun b4 => ?_) fun hb => bad _ x38 fun hn => (by have := dec_t hb; have := hn.2.2.2.1; omega)
    rw [SPoint.g_y q2, SPoint.g_y q3, bin_gtr]
    refine hK3 _ _ ⟨_, rfl, x38, fun ht hn => (by have := of_decide_eq_true ht; have := hn.2.2.2.2; omega), fun ht => ⟨valid_iff.1 (nd b1), nd b2, nd b3, ?_, ?_⟩⟩
    · have := dec_f b4; omega
    · have := of_decide_eq_false ht; omega
end Go.Proofs.YtdfpdfahcbflpabDoor
