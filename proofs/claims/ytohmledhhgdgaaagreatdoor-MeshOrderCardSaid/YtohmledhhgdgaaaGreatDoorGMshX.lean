/- Boxes of reports: Few, Same, has; copies; where a report belongs. -/
import Derived.Test.YtohmledhhgdgaaaGreatDoorGMshV
set_option linter.unusedVariables false
set_option linter.unusedSimpArgs false
namespace Go.Proofs.YtohmledhhgdgaaaGreatDoor
set_option maxRecDepth 100000
set_option maxHeartbeats 8000000
open Sh Go.RowKit
theorem mFew_ret {v : Value} {l : List Rep.Rpt} (w : World) (hv : RepsIs w v l) : Ret Tryz.prog 10 #[v] w fun r w' => (∃ b, r = .bool b ∧ (b = true → l.length ≤ 20 ∧ ∀ r ∈ l, r.ents.length ≤ 20)) ∧ Ext w w' := by
  refine ret_of (fun _ _ => sh_landfallref26_Few_ok _) fun R hR => ?_
  unfold sh_landfallref26_Few
  have hle := hv.le
  refine loop1 (fun x W => ∃ k : Nat, k ≤ l.length ∧ k ≤ 21 ∧ x = .int .i64 k ∧ Ext w W ∧ ∀ x ∈ l.take k, x.ents.length ≤ 20) (fun x _ => l.length - (intOf x).toNat) ⟨0, by omega, by omega, rfl, Ext.refl _, by simp⟩ ?_
  rintro h _ W hx ⟨k, hk, hk2, rfl, xW, hs⟩ K hK
  have fin : ∀ W', Ext w W' → (l.length ≤ k ∨ 21 ≤ k) → R (.returned (.bool (decide ((l.length : Int) ≤ 20)))) W' := fun W' x hh => by
    refine hR _ _ ⟨⟨_, rfl, fun hb => ?_⟩, x⟩
    have hb := of_decide_eq_true hb
    refine ⟨by omega, fun r hr => hs r ?_⟩
    rw [List.take_of_length_le (by omega)]; exact hr
  refine join0 (fun W' => W' = W ∧ k < l.length ∧ k < 21) ?_ fun K2 hK2 => ?_
  · rintro _ W' ⟨rfl, hlt, hlt2⟩
    obtain ⟨b, o, s, hs2, hh, hix⟩ := hv.at_ hlt
    rw [hx, hix, SReport.g_ents (hh W' xW), SEntry.row_len (Sl.ext hs2.2.2.1 xW), bin_gtr]
    refine Br_i (fun hb => hR _ _ ⟨⟨false, rfl, fun h => by cases h⟩, xW⟩) fun hb => ?_
    rw [bin_add, i64_wrap (by omega) (by omega)]
    refine hK _ _ ⟨k + 1, by omega, by omega, by simp, xW, fun x hx => ?_⟩ (by simp [intOf]; omega)
    rw [List.take_succ_eq_append_getElem hlt, List.mem_append, List.mem_singleton] at hx
    rcases hx with hx | rfl
    · exact hs x hx
    · have := dec_f hb; omega
  · rw [(hv.ext xW).len, hx, bin_lss]
    refine Gd_i (fun hb => ?_) fun hb => ?_
    · rw [bin_lss]
      refine Br_i (fun hb2 => hK2 _ ⟨rfl, by have := dec_t hb; omega, by have := dec_t hb2; omega⟩) fun hb2 => ?_
      rw [(hv.ext xW).len, bin_leq]
      exact fin W xW (.inr (by have := dec_f hb2; omega))
    · rw [(hv.ext xW).len, bin_leq]
      exact fin W xW (.inl (by have := dec_f hb; omega))
theorem msame_ret {s t : SBox} {a b : Int × List Rep.Rpt} (w : World) (hs : BoxIs w s a) (ht : BoxIs w t b) : Ret Tryz.prog 15 #[.agg s.cells.toArray, .agg t.cells.toArray] w fun r w' => r = .bool (decide (a = b)) ∧ Ext w w' := by
  refine ret_of (fun _ _ => sh_landfallref26_Same_ok _ _) fun R hR => ?_
  unfold sh_landfallref26_Same
  refine box_i fun g1 w1 x1 hat1 _ _ => ?_
  refine box_i fun g2 w2 x2 hat2 _ _ => ?_
  have x12 := x1.trans x2
  have hg1 : ∀ W, Ext w2 W → Has W g1 0 s.cells := fun W x => has_of_at ((At.ext hat1 x2).ext x)
  have hg2 : ∀ W, Ext w2 W → Has W g2 0 t.cells := fun W x => has_of_at (hat2.ext x)
  have ha := hs.ext x12
  have hb := ht.ext x12
  have hle := ha.2.le
  have hlb := hb.2.le
  have no : ∀ W, Ext w2 W → a ≠ b → R (.returned (.bool false)) W := fun W x hne => hR _ _ ⟨by rw [decide_eq_false hne], x12.trans x⟩
  refine join0 (fun W => Ext w2 W ∧ a.1 = b.1 ∧ a.2.length = b.2.length) ?_ fun K hK => ?_
  · rintro _ W ⟨xW, e1, e2⟩
    refine loop1 (fun x W' => ∃ k : Nat, k ≤ a.2.length ∧ x = .int .i64 k ∧ Ext w2 W' ∧ a.2.take k = b.2.take k) (fun x _ => a.2.length - (intOf x).toNat) ⟨0, by omega, rfl, xW, by simp⟩ ?_
    rintro hh _ W3 hx ⟨k, hk, rfl, x3, he⟩ K2 hK2
    rw [hx, SBox.g_reps (hg1 W3 x3), (ha.2.ext x3).len, bin_lss]
    refine Br_i (fun hbr => ?_) fun hbr => ?_
    · have hlt : k < a.2.length := by have := dec_t hbr; omega
      have hlt2 : k < b.2.length := by omega
      obtain ⟨p1, q1, s1, hr1, hh1, hix1⟩ := ha.2.at_ hlt
      obtain ⟨p2, q2, s2, hr2, hh2, hix2⟩ := hb.2.at_ hlt2
      refine draw_ext fun w4 x4 => ?_
      have x14 := x3.trans x4
      refine det_read _ (fun W' x K => Ty.SBox_f1) ?_
      refine det_read s.reps.val (fun W' x K => load_cell (fun w => show (isAgg 22).run Tryz.prog w = .ok false w by kernel_rfl) (has_at (hg1 W' (x14.trans x)) (d := 1) rfl rfl)) ?_
      refine det_read _ (fun W' x K => hix1 W' K _) ?_
      refine det_read _ (fun W' x K => SReport.g_all (hh1 W' (x14.trans x))) ?_
      refine det_read _ (fun W' x K => Ty.SBox_f1) ?_
      refine det_read t.reps.val (fun W' x K => load_cell (fun w => show (isAgg 22).run Tryz.prog w = .ok false w by kernel_rfl) (has_at (hg2 W' (x14.trans x)) (d := 1) rfl rfl)) ?_
      refine det_read _ (fun W' x K => hix2 W' K _) ?_
      refine det_read _ (fun W' x K => SReport.g_all (hh2 W' (x14.trans x))) ?_
      intro w5 x5 _
      have x15 := x14.trans x5
      refine callF_ret (Same_ret w5 (hr1.ext x15) (hr2.ext x15)) ?_
      rintro _ w6 ⟨rfl, x6⟩
      rw [un_not]
      refine Br_i (fun hb2 => ?_) fun hb2 => ?_
      · refine no _ (x15.trans x6) fun e => ?_
        subst e
        rw [decide_eq_true rfl] at hb2; cases hb2
      · have hee : a.2[k] = b.2[k] := of_decide_eq_true (by simpa using hb2)
        rw [bin_add, i64_wrap (by omega) (by omega)]
        refine hK2 _ _ ⟨k + 1, by omega, by simp, x15.trans x6, ?_⟩ (by simp [intOf]; omega)
        rw [List.take_succ_eq_append_getElem hlt, List.take_succ_eq_append_getElem hlt2, he, hee]
    · have hge : a.2.length ≤ k := by have := dec_f hbr; omega
      rw [List.take_of_length_le hge, List.take_of_length_le (by omega)] at he
      have : a = b := Prod.ext e1 he
      exact hR _ _ ⟨by rw [decide_eq_true this], x12.trans x3⟩
  · refine join_in fun K3 hK3 => ?_
    have h1 := hg1 w2 (Ext.refl _)
    have h2 := hg2 w2 (Ext.refl _)
    rw [SBox.g_veh h1, SBox.g_veh h2, bin_neq]
    refine Gd_i (fun hb1 => ?_) fun hb1 => leaf1 hK3 fun hh he => by
      rw [he]
      refine br_t (no _ (Ext.refl _) fun e => ?_)
      have e : a.1 = b.1 := by rw [e]
      rw [hs.1, ht.1, e, decide_eq_true rfl] at hb1; cases hb1
    have e1 : a.1 = b.1 := by
      have : s.veh = t.veh := by simpa using hb1
      rw [← hs.1, ← ht.1, this]
    rw [SBox.g_reps h1, ha.2.len, SBox.g_reps h2, hb.2.len, bin_neq]
    refine leaf1 hK3 fun hh he => ?_
    rw [he]
    refine Br_i (fun hb2 => no _ (Ext.refl _) fun e => ?_) fun hb2 => hK _ ⟨Ext.refl _, e1, ?_⟩
    · subst e
      rw [decide_eq_true rfl] at hb2; cases hb2
    · have : (a.2.length : Int) = b.2.length := by simpa using hb2
      omega
namespace Msh
theorem put_at : ∀ {l : List Rep.Rpt} {r : Rep.Rpt} {i : Nat}, i ≤ l.length → (∀ m (h : m < l.length), m < i → less l[m] r = true) → (∀ (h : i < l.length), less r l[i] = true) → put l r = l.take i ++ r :: l.drop i
  | [], r, i, hi, _, _ => by
    have : i = 0 := by simpa using hi
    subst this; rfl
  | x :: l, r, 0, _, _, h2 => by
    have hx : less r x = true := h2 (by simp)
    unfold put
    rw [if_neg (less_ne hx).symm, if_pos hx]
    rfl
  | x :: l, r, i + 1, hi, h1, h2 => by
    have hx : less x r = true := h1 0 (by simp) (by omega)
    unfold put
    rw [if_neg (less_ne hx), if_neg (by rw [less_asymm hx]; decide), put_at (l := l) (i := i) (by simpa using hi) (fun m h hm => h1 (m + 1) (by simpa using h) (by omega)) (fun h => h2 (by simpa using h))]
    rfl
end Msh
theorem det_val {w0 : World} {op : World → (Value → World → Prop) → Prop} {rest : Value → (World → Prop) → Prop} (c : Value) (h : ∀ w1, Ext w0 w1 → ∀ K : Value → World → Prop, (∀ w', Ext w1 w' → K c w') → op w1 K) (hk : rest c fun _ => True) : DetOp Ext Ext w0 op rest :=
  ⟨c, fun _ => True, fun _ _ _ _ => trivial, fun w1 h1 => h w1 h1 _ fun _ x => ⟨rfl, x, trivial⟩, hk⟩
theorem Ty.uint26 : Tryz.prog.underlying 121 = some (.int .u64) := by kernel_rfl
theorem mid_wrap {i j : Nat} (h : i + j < 1000000000000) : IntKind.i64.wrap ((IntKind.u64.wrap ((i : Int) + j)).fdiv (2 ^ min (1 : Int).toNat IntKind.u64.bits)) = (((i + j) / 2 : Nat) : Int) := by
  have e : ((2 : Int) ^ min (1 : Int).toNat IntKind.u64.bits) = 2 := by decide
  have e1 : IntKind.u64.wrap ((i : Int) + j) = (i : Int) + j := by
    show ((i : Int) + j) % (2 ^ 64) = _
    omega
  rw [e, e1]
  have e2 : ((i : Int) + j).fdiv 2 = (((i + j) / 2 : Nat) : Int) := by
    rw [Int.fdiv_eq_ediv_of_nonneg _ (by decide)]; omega
  rw [e2]
  exact i64_wrap (by omega) (by omega)
theorem msearch_ret {v : Value} {t : SReport} {l : List Rep.Rpt} {r : Rep.Rpt} (hs : Msh.Sorted l) (hn : l.length < 1000000) (hl : ∀ x ∈ l, x.ents.length < 1000000) (hr : r.ents.length < 1000000) (w : World) (hv : RepsIs w v l) (ht : RepIs w t r) :
    Ret Tryz.prog 65 #[v, .agg t.cells.toArray, .func (.func 38) #[] #[]] w fun u w' =>
      (∃ (i : Nat) (b : Bool), u = .tuple #[.int .i64 i, .bool b] ∧ i ≤ l.length ∧ (∀ m (h : m < l.length), m < i → Msh.less l[m] r = true) ∧ (b = true → r ∈ l) ∧ (b = false → ∀ (h : i < l.length), Msh.less r l[i] = true)) ∧ Ext w w' := by
  refine ret_of (fun _ _ => sh_slices_BinarySearchFunc___api_Report_api_Report_api_Report__ok _ _ _) fun R hR => ?_
  unfold sh_slices_BinarySearchFunc___api_Report_api_Report_api_Report_
  refine box_i fun g w1 x1 hat _ _ => ?_
  have hg : ∀ W, Ext w1 W → Has W g 0 t.cells := fun W x => has_of_at (hat.ext x)
  have hv1 := hv.ext x1
  have ht1 := ht.ext x1
  rw [hv1.len]
  have mono : ∀ a b (ha : a < l.length) (hb : b < l.length), a < b → Msh.less l[a] l[b] = true := fun a b ha hb hab => List.pairwise_iff_getElem.1 hs a b ha hb hab
  refine loop2 (fun x y W => ∃ i j : Nat, i ≤ j ∧ j ≤ l.length ∧ x = .int .i64 i ∧ y = .int .i64 j ∧ Ext w1 W ∧ (∀ m (h : m < l.length), m < i → Msh.less l[m] r = true) ∧ ∀ (h : j < l.length), Msh.less l[j] r = false) (fun x y _ => (intOf y).toNat - (intOf x).toNat)
    ⟨0, l.length, by omega, by omega, rfl, rfl, Ext.refl _, fun m _ h => by omega, fun h => by omega⟩ ?_
  rintro hh _ _ W hx hy ⟨i, j, hij, hj, rfl, rfl, xW, h1, h2⟩ K hK
  rw [hx, hy, bin_lss]
  refine Br_i (fun hb => ?_) fun hb => ?_
  · have hlt : i < j := by have := dec_t hb; omega
    rw [bin_add, i64_wrap (by omega) (by omega), conv_int Ty.int Ty.uint26, bin_shr (by decide), conv_int Ty.uint26 Ty.int, mid_wrap (by omega)]
    generalize hm : (i + j) / 2 = m
    have hmi : i ≤ m := by omega
    have hmj : m < j := by omega
    have hml : m < l.length := by omega
    obtain ⟨p1, q1, s1, hr1, hh1, hix1⟩ := hv1.at_ hml
    refine draw_ext fun w4 x4 => ?_
    have x14 := xW.trans x4
    refine det_read _ (fun W' x K => hix1 W' K _) ?_
    refine det_read _ (fun W' x K => SReport.g_all (hh1 W' (x14.trans x))) ?_
    refine det_read _ (fun W' x K => SReport.g_all (hg W' (x14.trans x))) ?_
    intro w5 x5 _
    have x15 := x14.trans x5
    rw [callV_func (by kernel_rfl)]
    refine callF_ret (order_ret (hl _ (List.getElem_mem hml)) hr w5 (hr1.ext x15) (ht1.ext x15)) ?_
    rintro _ w6 ⟨rfl, x6⟩
    rw [bin_lss]
    refine Br_i (fun hb2 => ?_) fun hb2 => ?_
    · have hless := rcmp_lt.1 (dec_t hb2)
      rw [bin_add, i64_wrap (by omega) (by omega)]
      refine hK _ _ _ ⟨m + 1, j, by omega, hj, by simp, rfl, x15.trans x6, fun q hq hqm => ?_, h2⟩ (by simp [intOf]; omega)
      by_cases hqe : q = m
      · subst hqe; exact hless
      · exact Msh.less_trans (mono q m hq hml (by omega)) hless
    · have hnl : Msh.less l[m] r = false := by
        cases h : Msh.less l[m] r with
        | false => rfl
        | true => exact absurd (rcmp_lt.2 h) (dec_f hb2)
      exact hK _ _ _ ⟨i, m, hmi, by omega, rfl, rfl, x15.trans x6, h1, fun _ => hnl⟩ (by simp [intOf]; omega)
  · have hij : i = j := by have := dec_f hb; omega
    subst hij
    refine draw_ext fun w4 x4 => ?_
    have x14 := xW.trans x4
    refine det_read _ (fun W' x K => bin_lss) ?_
    refine Gd_i (fun hb2 => ?_) fun hb2 => ?_
    · have hlt : i < l.length := by have := dec_t hb2; omega
      obtain ⟨p1, q1, s1, hr1, hh1, hix1⟩ := hv1.at_ hlt
      refine det_read _ (fun W' x K => hix1 W' K _) ?_
      refine det_read _ (fun W' x K => SReport.g_all (hh1 W' (x14.trans x))) ?_
      refine det_read _ (fun W' x K => SReport.g_all (hg W' (x14.trans x))) ?_
      refine det_val (.int .i64 (rcmp l[i] r)) (fun W' x K hK => ?_) ?_
      · rw [callV_func (by kernel_rfl)]
        refine callF_ret (order_ret (hl _ (List.getElem_mem hlt)) hr W' (hr1.ext (x14.trans x)) (ht1.ext (x14.trans x))) ?_
        rintro _ w6 ⟨rfl, x6⟩
        exact hK _ x6
      refine det_read _ (fun W' x K => bin_eql) ?_
      intro w5 x5 _
      refine hR _ _ ⟨⟨i, _, rfl, hj, h1, fun he => ?_, fun he h => ?_⟩, x1.trans (x14.trans x5)⟩
      · have := rcmp_eq.1 (of_decide_eq_true he)
        rw [← this]; exact List.getElem_mem hlt
      · exact Msh.less_total (h2 h) fun e => of_decide_eq_false he (rcmp_eq.2 e)
    · intro w5 x5 _
      exact hR _ _ ⟨⟨i, false, rfl, hj, h1, (fun h => by cases h), fun _ h => absurd (dec_f hb2) (by omega)⟩, x1.trans (x14.trans x5)⟩
theorem slnil_run26 (a : Option Addr) (n c : Nat) (w : World) : (binS .eql 22 (.tmp 3) (.const (.slice none 0 0)) (.slice a n c) (.slice none 0 0)).run Tryz.prog w = .ok (.bool a.isNone) w := by
  cases a with
  | none => kernel_rfl
  | some a => kernel_rfl
theorem bin_slnil26 {w : World} {K : Value → World → Prop} {X : List PanicEntry → World → Prop} {a : Option Addr} {n c : Nat} :
    DoV Tryz.prog (binS .eql 22 (.tmp 3) (.const (.slice none 0 0)) (.slice a n c) (.slice none 0 0)) w K X = K (.bool a.isNone) w := DoV_ok (slnil_run26 a n c w)
end Go.Proofs.YtohmledhhgdgaaaGreatDoor
