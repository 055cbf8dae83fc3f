/- Boxes of reports: Valid in both ways, Same, Few, and whether a report is in a box. -/
import Derived.Test.YtohmledhhgdgaaaGreatDoorGMshW
set_option linter.unusedVariables false
set_option linter.unusedSimpArgs false
namespace Go.Proofs.YtohmledhhgdgaaaGreatDoor
set_option maxRecDepth 100000
set_option maxHeartbeats 8000000
open Sh Go.RowKit
def BVal (b : Int × List Rep.Rpt) : Prop := Rep.isID b.1 = true ∧ b.2.length ≤ 500 ∧ (∀ r ∈ b.2, Rep.okR r = true) ∧ Msh.Sorted b.2
open Classical in
noncomputable def bvalid (b : Int × List Rep.Rpt) : Bool := decide (BVal b)
theorem bvalid_iff {b : Int × List Rep.Rpt} : bvalid b = true ↔ BVal b := @decide_eq_true_iff (BVal b) (Classical.propDecidable _)
theorem bvalid_not {b : Int × List Rep.Rpt} (h : ¬ BVal b) : bvalid b = false := by
  cases hb : bvalid b with
  | false => rfl
  | true => exact absurd (bvalid_iff.1 hb) h
theorem okR_few {r : Rep.Rpt} (h : Rep.okR r = true) : r.ents.length < 1000000 := by
  unfold Rep.okR at h
  simp only [Bool.and_eq_true, decide_eq_true_eq] at h
  have := (Rep.follows_iff.1 h.2.2).1
  omega
theorem misID_ret (n : Int) (w : World) : Ret Tryz.prog 34 #[.int .i64 n] w fun r w' => r = .bool (Rep.isID n) ∧ w' = w := by
  refine ret_of (fun _ _ => sh_mesh_isID_ok _) fun R hR => ?_
  unfold sh_mesh_isID
  rw [bin_geq]
  refine Gd_i (fun hb => ?_) fun hb => ?_
  · rw [bin_leq]
    refine hR _ _ ⟨?_, rfl⟩
    rw [Rep.isID]; congr 1; rw [decide_eq_decide]; have := dec_t hb; omega
  · refine hR _ _ ⟨?_, rfl⟩
    rw [Rep.isID]; congr 1; rw [eq_comm, decide_eq_false_iff_not]; have := dec_f hb; omega
theorem mindexFunc_ret {v fv : Value} {l : List Rep.Rpt} {p : Rep.Rpt → Bool} (w : World) (hv : RepsIs w v l)
    (hp : ∀ k (hk : k < l.length) (s : SReport) W K X, Ext w W → RepIs W s l[k] → (∀ W', Ext W W' → K (.bool (p l[k])) W') → CallV Tryz.prog fv #[.agg s.cells.toArray] W K X) :
    Ret Tryz.prog 72 #[v, fv] w fun r w' => (∃ n : Int, r = .int .i64 n ∧ ((n = -1 ∧ ∀ x ∈ l, p x = false) ∨ ∃ (k : Nat) (hk : k < l.length), n = k ∧ p l[k] = true ∧ ∀ x ∈ l.take k, p x = false)) ∧ Ext w w' := by
  refine ret_of (fun _ _ => sh_slices_IndexFunc___api_Report_api_Report__ok _ _) fun R hR => ?_
  unfold sh_slices_IndexFunc___api_Report_api_Report_
  have hle := hv.le
  rw [hv.len]
  refine loop1 (fun x W => ∃ k : Nat, k ≤ l.length ∧ x = .int .i64 k ∧ Ext w W ∧ ∀ x ∈ l.take k, p x = false) (fun x _ => l.length - (intOf x).toNat) ⟨0, by omega, rfl, Ext.refl _, by simp⟩ ?_
  rintro h _ W hx ⟨k, hk, rfl, xW, hpl⟩ K hK
  rw [hx, bin_lss]
  refine Br_i (fun hb => ?_) fun hb => ?_
  · have hlt : k < l.length := by have := dec_t hb; omega
    obtain ⟨b, o, s, hs, hh, hix⟩ := hv.at_ hlt
    rw [hix, SReport.g_all (hh W xW)]
    refine hp k hlt s W _ _ xW (hs.ext xW) fun W2 x2 => ?_
    refine Br_i (fun hb2 => ?_) fun hb2 => ?_
    · exact hR _ _ ⟨⟨(k : Int), rfl, .inr ⟨k, hlt, rfl, hb2, hpl⟩⟩, xW.trans x2⟩
    · rw [bin_add, i64_wrap (by omega) (by omega)]
      refine hK _ _ ⟨k + 1, by omega, by simp, xW.trans x2, fun x hx => ?_⟩ (by simp [intOf]; omega)
      rw [List.take_succ_eq_append_getElem hlt, List.mem_append, List.mem_singleton] at hx
      rcases hx with hx | rfl
      · exact hpl x hx
      · exact hb2
  · have hge : l.length ≤ k := by have := dec_f hb; omega
    rw [List.take_of_length_le hge] at hpl
    exact hR _ _ ⟨⟨-1, rfl, .inl ⟨rfl, hpl⟩⟩, xW⟩
theorem mwrong_ret {s : SReport} {r : Rep.Rpt} (hok : RepOk r) (w : World) (h : RepIs w s r) (ht : Tab w) : Ret Tryz.prog 35 #[.agg s.cells.toArray] w fun v w' => v = .bool (!Rep.okR r) ∧ Ext w w' := by
  refine ret_of (fun _ _ => sh_mesh_Valid_1_ok _) fun R hR => ?_
  unfold sh_mesh_Valid_1
  refine box_i fun g w1 x1 hat _ _ => ?_
  rw [SReport.g_all (has_of_at hat)]
  refine callF_ret (formed_ret26 hok w1 (h.ext x1) (ht.ext x1)) ?_
  rintro _ w2 ⟨rfl, x2⟩
  rw [un_not]
  exact hR _ _ ⟨rfl, x1.trans x2⟩
theorem mcontains_ret {v : Value} {l : List Rep.Rpt} (hok : ∀ r ∈ l, RepOk r) (w : World) (hv : RepsIs w v l) (ht : Tab w) :
    Ret Tryz.prog 37 #[v, .func (.func 35) #[] #[]] w fun r w' => (∃ b, r = .bool b ∧ (b = false ↔ ∀ r ∈ l, Rep.okR r = true)) ∧ Ext w w' := by
  refine ret_of (fun _ _ => sh_slices_ContainsFunc___api_Report_api_Report__ok _ _) fun R hR => ?_
  unfold sh_slices_ContainsFunc___api_Report_api_Report_
  refine callF_ret (mindexFunc_ret (p := fun r => !Rep.okR r) w hv fun k hk s W K X xW hs hK => ?_) ?_
  · rw [callV_func (by kernel_rfl)]
    refine callF_ret (mwrong_ret (hok _ (List.getElem_mem hk)) W hs (ht.ext xW)) ?_
    rintro _ W' ⟨rfl, x⟩
    exact hK W' x
  · rintro _ w1 ⟨⟨n, rfl, hn⟩, x1⟩
    rw [bin_geq]
    refine hR _ _ ⟨⟨_, rfl, ?_⟩, x1⟩
    rw [decide_eq_false_iff_not]
    rcases hn with ⟨rfl, hn⟩ | ⟨k, hk, rfl, hn, _⟩
    · exact ⟨fun _ r hr => by simpa using hn r hr, fun _ => by omega⟩
    · refine ⟨fun h => absurd (show (0 : Int) ≤ k by omega) h, fun h => ?_⟩
      have := h _ (List.getElem_mem hk)
      rw [this] at hn
      cases hn
theorem mvalid_ret {s : SBox} {b : Int × List Rep.Rpt} (hok : ∀ r ∈ b.2, RepOk r) (w : World) (h : BoxIs w s b) (ht : Tab w) : Ret Tryz.prog 13 #[.agg s.cells.toArray] w fun r w' => r = .bool (bvalid b) ∧ Ext w w' := by
  refine ret_of (fun _ _ => sh_mesh_Valid_ok _) fun R hR => ?_
  unfold sh_mesh_Valid
  refine box_i fun g w1 x1 hat _ _ => ?_
  have hg : ∀ W, Ext w1 W → Has W g 0 s.cells := fun W x => has_of_at (hat.ext x)
  have hb1 := h.ext x1
  have hle := h.2.le
  refine join0 (fun W => Ext w1 W ∧ Rep.isID b.1 = true ∧ b.2.length ≤ 500) ?_ fun K hK => ?_
  · rintro _ W ⟨xW, hid, hlen⟩
    rw [SBox.g_reps (hg W xW)]
    refine callF_ret (mcontains_ret hok W (hb1.2.ext xW) (ht.ext (x1.trans xW))) ?_
    rintro _ w2 ⟨⟨c, rfl, hc⟩, x2⟩
    have x12 := xW.trans x2
    refine Br_i (fun hbc => ?_) fun hbc => ?_
    · refine hR _ _ ⟨?_, x1.trans x12⟩
      rw [bvalid_not fun hv => ?_]
      rw [hc.2 hv.2.2.1] at hbc; cases hbc
    · have hall := hc.1 hbc
      refine loop1 (fun x W' => ∃ k : Nat, 1 ≤ k ∧ (k ≤ b.2.length ∨ k = 1) ∧ x = .int .i64 k ∧ Ext w1 W' ∧ ∀ i (hi : i + 1 < b.2.length), i + 1 < k → Msh.less b.2[i] b.2[i + 1] = true) (fun x _ => b.2.length + 1 - (intOf x).toNat) ⟨1, by omega, .inr rfl, rfl, x12, fun i _ h => by omega⟩ ?_
      rintro hh _ W3 hx ⟨k, hk1, hk, rfl, x3, hs⟩ K2 hK2
      rw [hx, SBox.g_reps (hg W3 x3), (hb1.2.ext x3).len, bin_lss]
      refine Br_i (fun hb => ?_) fun hb => ?_
      · have hlt : k < b.2.length := by have := dec_t hb; omega
        obtain ⟨p1, q1, s1, hr1, hh1, hix1⟩ := hb1.2.at_ (show k - 1 < b.2.length by omega)
        obtain ⟨p2, q2, s2, hr2, hh2, hix2⟩ := hb1.2.at_ hlt
        refine draw_ext fun w4 x4 => ?_
        have x14 := x3.trans x4
        refine det_read _ (fun W' x K => Ty.SBox_f1) ?_
        refine det_read s.reps.val (fun W' x K => load_cell (fun w => show (isAgg 22).run Tryz.prog w = .ok false w by kernel_rfl) (has_at (hg W' (x14.trans x)) (d := 1) rfl rfl)) ?_
        refine det_read (.int .i64 ((k - 1 : Nat) : Int)) (fun W' x K => by rw [bin_sub, i64_wrap (by omega) (by omega), show (k : Int) - 1 = ((k - 1 : Nat) : Int) by omega]) ?_
        refine det_read _ (fun W' x K => hix1 W' K _) ?_
        refine det_read _ (fun W' x K => SReport.g_all (hh1 W' (x14.trans x))) ?_
        refine det_read _ (fun W' x K => Ty.SBox_f1) ?_
        refine det_read s.reps.val (fun W' x K => load_cell (fun w => show (isAgg 22).run Tryz.prog w = .ok false w by kernel_rfl) (has_at (hg W' (x14.trans x)) (d := 1) rfl rfl)) ?_
        refine det_read _ (fun W' x K => hix2 W' K _) ?_
        refine det_read _ (fun W' x K => SReport.g_all (hh2 W' (x14.trans x))) ?_
        intro w5 x5 _
        have x15 := x14.trans x5
        refine callF_ret (order_ret (okR_few (hall _ (List.getElem_mem _))) (okR_few (hall _ (List.getElem_mem _))) w5 (hr1.ext x15) (hr2.ext x15)) ?_
        rintro _ w6 ⟨rfl, x6⟩
        rw [bin_geq]
        have hkk : b.2[k - 1 + 1]'(by omega) = b.2[k] := by congr 1; omega
        refine Br_i (fun hb2 => ?_) fun hb2 => ?_
        · refine hR _ _ ⟨?_, x1.trans (x15.trans x6)⟩
          rw [bvalid_not fun hv => ?_]
          have h2 := Msh.sorted_iff.1 hv.2.2.2 (k - 1) (by omega)
          rw [hkk] at h2
          have := rcmp_lt.2 h2
          have := dec_t hb2
          omega
        · rw [bin_add, i64_wrap (by omega) (by omega)]
          refine hK2 _ _ ⟨k + 1, by omega, .inl (by omega), by simp, x15.trans x6, fun i hi h => ?_⟩ (by simp [intOf]; omega)
          by_cases hik : i + 1 < k
          · exact hs i hi hik
          · have hik : i = k - 1 := by omega
            subst hik
            refine rcmp_lt.1 ?_
            rw [hkk]
            have := dec_f hb2
            omega
      · refine hR _ _ ⟨?_, x1.trans x3⟩
        have : BVal b := ⟨hid, hlen, hall, Msh.sorted_iff.2 fun i hi => hs i hi (by have := dec_f hb; omega)⟩
        rw [bvalid_iff.2 this]
  · refine join_in fun K3 hK3 => ?_
    rw [SBox.g_veh (hg w1 (Ext.refl _))]
    refine callF_same (misID_ret _ w1) ?_
    rw [un_not, h.1]
    refine Gd_i (fun hbi => ?_) fun hbi => leaf1 hK3 fun hh he => by
      rw [he]
      refine br_t (hR _ _ ⟨?_, x1⟩)
      rw [bvalid_not fun hv => ?_]
      rw [hv.1] at hbi; cases hbi
    have hid : Rep.isID b.1 = true := by simpa using hbi
    rw [SBox.g_reps (hg w1 (Ext.refl _)), hb1.2.len, bin_gtr]
    refine leaf1 hK3 fun hh he => ?_
    rw [he]
    refine Br_i (fun hb => ?_) fun hb => hK _ ⟨Ext.refl _, hid, by have := dec_f hb; omega⟩
    refine hR _ _ ⟨?_, x1⟩
    rw [bvalid_not fun hv => ?_]
    have := hv.2.1
    have := dec_t hb
    omega
theorem refBoxValid_ret {s : SBox} {b : Int × List Rep.Rpt} (w : World) (h : BoxIs w s b) : Ret Tryz.prog 14 #[.agg s.cells.toArray] w fun r w' => r = .bool (bvalid b) ∧ Ext w w' := by
  refine ret_of (fun _ _ => sh_landfallref26_Valid_ok _) fun R hR => ?_
  unfold sh_landfallref26_Valid
  refine box_i fun g w1 x1 hat _ _ => ?_
  have hg : ∀ W, Ext w1 W → Has W g 0 s.cells := fun W x => has_of_at (hat.ext x)
  have hb1 := h.ext x1
  have hle := h.2.le
  refine join0 (fun W => Ext w1 W ∧ Rep.isID b.1 = true ∧ b.2.length ≤ 500) ?_ fun K hK => ?_
  · rintro _ W ⟨xW, hid, hlen⟩
    refine loop1 (fun x W' => ∃ k : Nat, k ≤ b.2.length ∧ x = .int .i64 k ∧ Ext w1 W' ∧ (∀ i (hi : i < b.2.length), i < k → Rep.okR b.2[i] = true) ∧ ∀ i (hi : i + 1 < b.2.length), i + 1 < k → Msh.less b.2[i] b.2[i + 1] = true) (fun x _ => b.2.length - (intOf x).toNat) ⟨0, by omega, rfl, xW, fun i _ h => by omega, fun i _ h => by omega⟩ ?_
    rintro hh _ W3 hx ⟨k, hk, rfl, x3, ho, hs⟩ K2 hK2
    rw [hx, SBox.g_reps (hg W3 x3), (hb1.2.ext x3).len, bin_lss]
    refine Br_i (fun hb => ?_) fun hb => ?_
    · have hlt : k < b.2.length := by have := dec_t hb; omega
      refine join0 (fun W' => Ext w1 W' ∧ Rep.okR b.2[k] = true ∧ (0 < k → Msh.less (b.2[k - 1]'(by omega)) b.2[k] = true)) ?_ fun K3 hK3 => ?_
      · rintro _ W4 ⟨x4, hok, hl⟩
        rw [bin_add, i64_wrap (by omega) (by omega)]
        refine hK2 _ _ ⟨k + 1, by omega, by simp, x4, fun i hi h => ?_, fun i hi h => ?_⟩ (by simp [intOf]; omega)
        · by_cases hik : i < k
          · exact ho i hi hik
          · have hik : i = k := by omega
            subst hik; exact hok
        · by_cases hik : i + 1 < k
          · exact hs i hi hik
          · have hik : k = i + 1 := by omega
            subst hik
            exact hl (by omega)
      obtain ⟨p2, q2, s2, hr2, hh2, hix2⟩ := hb1.2.at_ hlt
      rw [SBox.g_reps (hg W3 x3), hix2, SReport.g_all (hh2 W3 x3)]
      refine callF_ret (refFormed_ret W3 (hr2.ext x3)) ?_
      rintro _ w4 ⟨rfl, x4⟩
      have x14 := x3.trans x4
      rw [un_not]
      refine Br_i (fun hbf => ?_) fun hbf => ?_
      · refine hR _ _ ⟨?_, x1.trans x14⟩
        rw [bvalid_not fun hv => ?_]
        rw [hv.2.2.1 _ (List.getElem_mem hlt)] at hbf; cases hbf
      have hok : Rep.okR b.2[k] = true := by simpa using hbf
      rw [bin_gtr]
      refine Br_i (fun hb0 => ?_) fun hb0 => hK3 _ ⟨x14, hok, fun h => by have := dec_f hb0; omega⟩
      have hk0 : 0 < k := by have := dec_t hb0; omega
      obtain ⟨p1, q1, s1, hr1, hh1, hix1⟩ := hb1.2.at_ (show k - 1 < b.2.length by omega)
      refine draw_ext fun w5 x5 => ?_
      have x15 := x14.trans x5
      refine det_read _ (fun W' x K => Ty.SBox_f1) ?_
      refine det_read s.reps.val (fun W' x K => load_cell (fun w => show (isAgg 22).run Tryz.prog w = .ok false w by kernel_rfl) (has_at (hg W' (x15.trans x)) (d := 1) rfl rfl)) ?_
      refine det_read (.int .i64 ((k - 1 : Nat) : Int)) (fun W' x K => by rw [bin_sub, i64_wrap (by omega) (by omega), show (k : Int) - 1 = ((k - 1 : Nat) : Int) by omega]) ?_
      refine det_read _ (fun W' x K => hix1 W' K _) ?_
      refine det_read _ (fun W' x K => SReport.g_all (hh1 W' (x15.trans x))) ?_
      refine det_read _ (fun W' x K => Ty.SBox_f1) ?_
      refine det_read s.reps.val (fun W' x K => load_cell (fun w => show (isAgg 22).run Tryz.prog w = .ok false w by kernel_rfl) (has_at (hg W' (x15.trans x)) (d := 1) rfl rfl)) ?_
      refine det_read _ (fun W' x K => hix2 W' K _) ?_
      refine det_read _ (fun W' x K => SReport.g_all (hh2 W' (x15.trans x))) ?_
      intro w6 x6 _
      have x16 := x15.trans x6
      refine callF_ret (Less_ret26 (okR_few (ho _ _ (by omega))) (okR_few hok) w6 (hr1.ext x16) (hr2.ext x16)) ?_
      rintro _ w7 ⟨rfl, x7⟩
      rw [un_not]
      refine Br_i (fun hb2 => ?_) fun hb2 => hK3 _ ⟨x16.trans x7, hok, fun _ => by simpa using hb2⟩
      refine hR _ _ ⟨?_, x1.trans (x16.trans x7)⟩
      rw [bvalid_not fun hv => ?_]
      have h2 := Msh.sorted_iff.1 hv.2.2.2 (k - 1) (by omega)
      have hkk : b.2[k - 1 + 1]'(by omega) = b.2[k] := by congr 1; omega
      rw [hkk] at h2
      rw [h2] at hb2
      cases hb2
    · have hge : b.2.length ≤ k := by have := dec_f hb; omega
      refine hR _ _ ⟨?_, x1.trans x3⟩
      have : BVal b := ⟨hid, hlen, fun r hr => by
        obtain ⟨i, hi, rfl⟩ := List.mem_iff_getElem.1 hr
        exact ho i hi (by omega), Msh.sorted_iff.2 fun i hi => hs i hi (by omega)⟩
      rw [bvalid_iff.2 this]
  · refine join_in fun K3 hK3 => ?_
    have hgw := hg w1 (Ext.refl _)
    have bad : ∀ {hh : Nat → Value}, (Rep.isID b.1 = true → ¬ b.2.length ≤ 500) → R (.returned (.bool false)) w1 := fun hn => by
      refine hR _ _ ⟨?_, x1⟩
      rw [bvalid_not fun hv => hn hv.1 hv.2.1]
    rw [SBox.g_veh hgw, bin_lss]
    refine Gd_i (fun hbi => ?_) fun hbi => leaf1 hK3 fun hh he => by
      rw [he]
      refine br_t (bad (hh := hh) fun hi => ?_)
      unfold Rep.isID at hi
      have := of_decide_eq_true hi
      have := h.1
      have := dec_t (by simpa using hbi)
      omega
    rw [SBox.g_veh hgw, bin_gtr]
    refine Gd_i (fun hbj => ?_) fun hbj => leaf1 hK3 fun hh he => by
      rw [he]
      refine br_t (bad (hh := hh) fun hi => ?_)
      unfold Rep.isID at hi
      have := of_decide_eq_true hi
      have := h.1
      have := dec_t (by simpa using hbj)
      omega
    have hid : Rep.isID b.1 = true := by
      unfold Rep.isID
      have := h.1
      have := dec_f hbi
      have := dec_f hbj
      exact decide_eq_true (by omega)
    rw [SBox.g_reps hgw, hb1.2.len, bin_gtr]
    refine leaf1 hK3 fun hh he => ?_
    rw [he]
    refine Br_i (fun hb => ?_) fun hb => hK _ ⟨Ext.refl _, hid, by have := dec_f hb; omega⟩
    exact bad (hh := hh) fun _ => by have := dec_t hb; omega
end Go.Proofs.YtohmledhhgdgaaaGreatDoor
