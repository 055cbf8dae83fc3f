/- WRITTEN BY structs.py: rows of flat structs. The laws of reports: MatchesReference, Chains, Logs. The laws of reports: Chains, Logs. The laws of reports: Logs. The laws of reports: Digits. The laws of reports: Right, Parts. The laws of reports: Parts. -/
import Derived.Test.YtjinhojlnaplaaaDoorStrA
import Derived.Test.YtjinhojlnaplaaaDoorRepJ
/-! ## RowP -/
namespace Go.Proofs.YtjinhojlnaplaaaDoor
open Sh Go.RowKit Go.WideShapes Go.ChangeShapes
set_option maxRecDepth 100000
set_option maxHeartbeats 2000000
theorem Ty.SReport_row : Tryd.prog.underlying 76 = some (.slice 51) := by kernel_rfl
abbrev SReport.Row (w : World) (v : Value) (l : List SReport) : Prop := Sl w 7 v l.length (fl SReport.cells l)
abbrev SReport.Owns (base : Nat) (w : World) (v : Value) (l : List SReport) : Prop := w.ownsRow base 51 7 v l.length (fl SReport.cells l)
theorem SReport.row_nil (w : World) : SReport.Row w (.slice none 0 0) [] := Sl.nil _ _
theorem SReport.owns_nil (base : Nat) (w : World) : SReport.Owns base w (.slice none 0 0) [] := Own.nil _ _ _ _
theorem SReport.row_len {w : World} {K : Value → World → Prop} {X : List PanicEntry → World → Prop} {cs : Array Bool} {v : Value} {l : List SReport} (h : SReport.Row w v l) : CallB Tryd.prog .len #[76] 3 cs #[v] w K X = K (.int .i64 l.length) w := h.len Ty.SReport_row
theorem SReport.row_at {w : World} {v : Value} {l : List SReport} (h : SReport.Row w v l) {j : Nat} (hj : j < l.length) : ∃ b o, (∀ w1, Ext w w1 → Has w1 b o l[j].cells) ∧ b < w.heap.size ∧
    ∀ (w1 : World) (K : Value → World → Prop) (X : List PanicEntry → World → Prop), DoV Tryd.prog (Instr.indexAt 76 v (.int .i64 j)) w1 K X = K (.pointer (some ⟨b, o, none⟩)) w1 := by
  obtain ⟨i, hi, hz, hs, hby⟩ := Ty.info_parts Ty.SReport_info
  obtain ⟨b, o, h1, h2, h3⟩ := Sl.el (c := SReport.cells) (sz := 7) SReport.len h Ty.SReport_row hi hs (k := .i64) hj (by decide)
  have h1 : Has w b o l[j].cells := h1
  exact ⟨b, o, fun w1 x1 => h1.ext h2 x1, h2, h3⟩
theorem SReport.row_app {w : World} {K : Value → World → Prop} {X : List PanicEntry → World → Prop} {base : Nat} {cs : Array Bool} {v : Value} {l : List SReport} {a : SReport} (hown : SReport.Owns base w v l) (hl : l.length < 100000000000) (hb : base ≤ w.heap.size) (hk : ∀ v' w1, SReport.Owns base w1 v' (l ++ [a]) → Mod (base ≤ ·) w w1 → K v' w1) :
    DoV Tryd.prog (Instr.buildSlice 76 1 #[(0, .agg a.cells.toArray)]) w (fun s w1 => CallB Tryd.prog .append #[76, 76] 76 cs #[v, s] w1 K X) X := by
  obtain ⟨i, hi, hz, hs, hby⟩ := Ty.info_parts Ty.SReport_info
  exact app_el (c := SReport.cells) (x := .agg a.cells.toArray) Ty.SReport_row hi hz hs hby rfl (by decide) (by decide) SReport.len SReport.one rfl hown (by omega) (by omega) hb hk
theorem SReport.row_apps {w : World} {K : Value → World → Prop} {X : List PanicEntry → World → Prop} {base : Nat} {cs : Array Bool} {v x : Value} {l m : List SReport} (hown : SReport.Owns base w v l) (hx : SReport.Row w x m) (hl : l.length + m.length < 100000000000) (hb : base ≤ w.heap.size) (hk : ∀ v' w1, SReport.Owns base w1 v' (l ++ m) → Mod (fun k => v.ownBlock = some k) w w1 → K v' w1) :
    CallB Tryd.prog .append #[76, 76] 76 cs #[v, x] w K X := by
  obtain ⟨i, hi, hz, hs, hby⟩ := Ty.info_parts Ty.SReport_info
  exact app_els (c := SReport.cells) Ty.SReport_row hi hz hs hby rfl (by decide) SReport.one hown hx (by omega) (by omega) hb hk
theorem SReport.row_lit {w : World} {K : Value → World → Prop} {X : List PanicEntry → World → Prop} {m : Nat} {parts : Array (Nat × Value)} (els : List SReport) (hn : els.length = m) (hn0 : 0 < m) (hsm : m * 7 ≤ 16777216) (hp : parts.toList = ((els.map fun a => Value.agg a.cells.toArray).zipIdx 0).map fun y => (y.2, y.1))
    (hk : ∀ v w1, Ext w w1 → SReport.Owns w.heap.size w1 v els → w1.heap.size = w.heap.size + 1 → K v w1) : DoV Tryd.prog (Instr.buildSlice 76 m parts) w K X := by
  obtain ⟨i, hi, hz, hs, hby⟩ := Ty.info_parts Ty.SReport_info
  exact lit_els (c := SReport.cells) (fun a => Value.agg a.cells.toArray) els Ty.SReport_row hi hz hs (by decide) SReport.len (fun _ => rfl) hn hn0 hsm hp hk
theorem SReport.row_lit0 {w : World} {K : Value → World → Prop} {X : List PanicEntry → World → Prop} (hk : ∀ v w1, Ext w w1 → SReport.Owns w.heap.size w1 v [] → w1.heap.size = w.heap.size + 1 → K v w1) : DoV Tryd.prog (Instr.buildSlice 76 0 #[]) w K X := by
  obtain ⟨i, hi, hz, hs, hby⟩ := Ty.info_parts Ty.SReport_info
  exact lit0_e (sz := 7) Ty.SReport_row hi hk
theorem SReport.row_upto {w : World} {K : Value → World → Prop} {X : List PanicEntry → World → Prop} {v : Value} {l : List SReport} (h : SReport.Row w v l) {k : Nat} (hk : k ≤ l.length) (hK : ∀ v', SReport.Row w v' (l.take k) → K v' w) : DoV Tryd.prog (Instr.sliceAt 76 v none (some (.int .i64 k)) none) w K X := by
  obtain ⟨i, hi, hz, hs, hby⟩ := Ty.info_parts Ty.SReport_info
  refine slice_upto Ty.SReport_row hi hs (by decide) h hk fun v' hv' _ => hK v' ?_
  rw [fl_take SReport.len] at hv'
  rw [SReport.Row, List.length_take, Nat.min_eq_left hk]; exact hv'
theorem SReport.row_from {w : World} {K : Value → World → Prop} {X : List PanicEntry → World → Prop} {v : Value} {l : List SReport} (h : SReport.Row w v l) {k : Nat} (hk : k ≤ l.length) (hK : ∀ v', SReport.Row w v' (l.drop k) → K v' w) : DoV Tryd.prog (Instr.sliceAt 76 v (some (.int .i64 k)) none none) w K X := by
  obtain ⟨i, hi, hz, hs, hby⟩ := Ty.info_parts Ty.SReport_info
  refine slice_from Ty.SReport_row hi hs (by decide) h hk fun v' hv' _ => hK v' ?_
  rw [fl_drop SReport.len] at hv'
  rw [SReport.Row, List.length_drop]; exact hv'
end Go.Proofs.YtjinhojlnaplaaaDoor
/-! ## RepL1 -/
namespace Go.Proofs.YtjinhojlnaplaaaDoor
set_option maxRecDepth 100000
set_option maxHeartbeats 8000000
open Sh Go.RowKit
theorem ReportMatchesReference_ret {g : SLog} {L : Rep.Lg} {t : SReport} {r : Rep.Rpt} {f l s o p : Int} (hok : LogOk L) (hokr : RepOk r) (hf : I64 f) (w : World) (h : LogIs w g L) (hr : RepIs w t r) (ht : Tab w) :
    Ret Tryd.prog 6 #[.agg g.cells.toArray, .agg t.cells.toArray, .int .i64 f, .int .i64 l, .int .i64 s, .int .i64 o, .int .i64 p] w (TrueQ w) := by
  refine ret_of (fun _ _ => sh_landfalllaw24_ReportMatchesReference_ok _ _ _ _ _ _ _) fun R hR => ?_
  unfold sh_landfalllaw24_ReportMatchesReference
  refine box_i fun b1 w1 x1 hat1 _ _ => ?_
  refine box_i fun b2 w2 x2 hat2 _ _ => ?_
  have hat1 : At w2 b1 _ := At.ext hat1 x2
  have x12 := x1.trans x2
  refine callF_ret (head24_ret w2 (ht.ext x12)) ?_
  rintro _ w3 ⟨rfl, x3⟩
  have x13 := x12.trans x3
  refine join0 (fun W => Ext w3 W ∧ L.ents.length ≤ 40) ?_ fun K hK => ?_
  · rintro _ W ⟨xW, hlen⟩
    have xW0 := x13.trans xW
    have hg : ∀ W', Ext W W' → Has W' b1 0 g.cells := fun W' x' => has_of_at (((At.ext hat1 x3).ext xW).ext x')
    have hgr : ∀ W', Ext W W' → Has W' b2 0 t.cells := fun W' x' => has_of_at (((At.ext hat2 x3).ext xW).ext x')
    rw [SLog.g_all (hg W (Ext.refl _))]
    refine callF_ret (Chain_ret hok W (h.ext xW0) (ht.ext xW0)) ?_
    rintro _ w4 ⟨rfl, x4⟩
    rw [ext2_0, ext2_1, SLog.g_all (hg w4 x4)]
    refine callF_ret (refChain_ret hok w4 (h.ext (xW0.trans x4))) ?_
    rintro _ w5 ⟨rfl, x5⟩
    rw [ext2_0, ext2_1]
    have x45 := x4.trans x5
    refine join1 (fun q W' => q = .bool true ∧ Ext W W') ?_ fun K1 hK1 => ?_
    · rintro hh q w6 hq ⟨rfl, x6⟩
      have x06 := xW0.trans x6
      rw [SLog.g_all (hg w6 x6)]
      refine callF_ret (Make_ret hok hf (by omega) w6 (h.ext x06) (ht.ext x06)) ?_
      rintro _ w7 ⟨ga, rfl, ha, x7, _⟩
      rw [ext2_0, ext2_1]
      refine SReport.var fun ba w8 x8 hata hba => ?_
      have x68 := x7.trans x8
      have xW8 := x6.trans x68
      rw [SLog.g_all (hg w8 xW8)]
      refine callF_ret (refMake_ret hok hf (by omega) w8 (h.ext (xW0.trans xW8))) ?_
      rintro _ w9 ⟨gb, rfl, hb, x9, _⟩
      rw [ext2_0, ext2_1]
      refine SReport.var fun bb w10 x10 hatb hbb => ?_
      have xW10 := xW8.trans (x9.trans x10)
      refine join1 (fun q W' => q = .bool true ∧ Ext W W') ?_ fun K2 hK2 => ?_
      · rintro hh2 q w11 hq2 ⟨rfl, x11⟩
        rw [SReport.g_all (hgr w11 x11)]
        have x011 := xW0.trans x11
        refine callF_ret (Check_ret hokr w11 (hr.ext x011) (ht.ext x011)) ?_
        rintro _ w12 ⟨rfl, x12'⟩
        rw [ext2_0, ext2_1, SReport.g_all (hgr w12 (x11.trans x12'))]
        refine callF_ret (refCheck_ret hokr w12 (hr.ext (x011.trans x12'))) ?_
        rintro _ w13 ⟨rfl, x13'⟩
        rw [ext2_0, ext2_1, hq2, Gd_bool, if_pos rfl, bool_eql Ty.bool, beq_self_eq_true, Gd_bool, if_pos rfl, bin_eql, decide_eq_true rfl]
        exact hR _ _ ⟨rfl, (x011.trans x12').trans x13'⟩
      · rw [hq, Gd_bool, if_pos rfl, SReport.g_all (has_of_at ((hata.ext x9).ext x10)), SReport.g_all (has_of_at hatb)]
        refine callF_ret (Same_ret w10 (ha.ext (x8.trans (x9.trans x10))) (hb.ext x10)) ?_
        rintro _ w11 ⟨rfl, x11⟩
        rw [decide_eq_true rfl, Gd_bool, if_pos rfl, bin_eql, decide_eq_true rfl]
        exact hK2 _ _ ⟨rfl, xW10.trans x11⟩
    · refine draw_ext fun w6 x6 => ?_
      have xW6 := x45.trans x6
      rw [Gd_bool, if_pos rfl]
      refine det_read _ (fun w7 x7 K => bin_eqv) ?_
      rw [decide_eq_true rfl, Gd_bool, if_pos rfl]
      refine det_read _ (fun w7 x7 K => bin_eql) ?_
      rw [decide_eq_true rfl, Gd_bool, if_pos rfl]
      refine det_read _ (fun w7 x7 K => SLog.g_all (hg w7 (xW6.trans x7))) ?_
      refine det_ret _ (fun w7 x7 => (h.ext ((xW0.trans xW6).trans x7)).valid_ret hok) ?_
      refine det_read _ (fun w7 x7 K => SLog.g_all (hg w7 (xW6.trans x7))) ?_
      intro w7 x7 _
      refine callF_ret ((h.ext ((xW0.trans xW6).trans x7)).refValid_ret) ?_
      rintro _ w8 ⟨rfl, x8⟩
      rw [bool_eql Ty.bool, beq_self_eq_true]
      exact hK1 _ _ ⟨rfl, (xW6.trans x7).trans x8⟩
  · refine join_in fun K2 hK1 => ?_
    rw [SLog.g_all (has_of_at (At.ext hat1 x3))]
    refine callF_ret (Few_ret w3 (h.ext x13)) ?_
    rintro _ w4 ⟨⟨bf, rfl, hbf⟩, x4⟩
    rw [un_not]
    refine Gd_i (fun hb => ?_) fun hb => leaf1 hK1 fun h hh => by rw [hh]; exact br_t (hR _ _ ⟨rfl, x13.trans x4⟩)
    have hb : bf = true := by simpa using hb
    rw [SReport.g_ents (has_of_at ((At.ext hat2 x3).ext x4)), SEntry.row_len (Sl.ext hr.2.2.1 (x13.trans x4)), bin_gtr]
    refine leaf1 hK1 fun h hh => ?_
    rw [hh]
    exact Br_i (fun _ => hR _ _ ⟨rfl, x13.trans x4⟩) fun _ => hK _ ⟨x4, hbf hb⟩
end Go.Proofs.YtjinhojlnaplaaaDoor
/-! ## RepL2 -/
namespace Go.Proofs.YtjinhojlnaplaaaDoor
set_option maxRecDepth 100000
set_option maxHeartbeats 8000000
open Sh Go.RowKit
theorem new_log2 (v : Int) (d : Hdr) : Tryd.prog.built 49 [(0, .int .i64 v), (1, d.val)] = some (SLog.mk v d ⟨none, 0, 0⟩).cells.toArray := by kernel_rfl
theorem LogOk.take {L : Rep.Lg} (h : LogOk L) (n : Nat) : LogOk ⟨L.veh, L.rs, L.ents.take n⟩ := ⟨h.1, h.2.1, fun e he => h.2.2 e (List.mem_of_mem_take he)⟩
theorem Rep.valid_take {L : Rep.Lg} (h : L.valid = true) {n : Nat} (hn : n ≤ L.ents.length) : Rep.Lg.valid ⟨L.veh, L.rs, L.ents.take n⟩ = true := by
  rw [Rep.valid_with h, Rep.follows_take (Rep.valid_fol h) hn]
theorem ReportChains_ret {g : SLog} {L : Rep.Lg} {c : Int} {v2 : Value} {rs2 : List (List SPoint)} (hok : LogOk L) (hc : 0 ≤ c ∧ c < 256) (hok2 : ∀ l ∈ rs2, ∀ p ∈ l, p.Ok) (w : World) (h : LogIs w g L) (h2 : RL w v2 rs2) (ht : Tab w) :
    Ret Tryd.prog 7 #[.agg g.cells.toArray, .int .u8 c, v2] w (TrueQ w) := by
  refine ret_of (fun _ _ => sh_landfalllaw24_ReportChains_ok _ _ _) fun R hR => ?_
  unfold sh_landfalllaw24_ReportChains
  refine box_i fun b1 w1 x1 hat1 _ _ => ?_
  refine callF_ret (head24_ret w1 (ht.ext x1)) ?_
  rintro _ w2 ⟨rfl, x2⟩
  have x12 := x1.trans x2
  rw [SLog.g_all (has_of_at (At.ext hat1 x2))]
  refine callF_ret (usable_ret w2 (h.ext x12)) ?_
  rintro _ w3 ⟨⟨b, rfl, hus⟩, x3⟩
  have x03 := x12.trans x3
  rw [un_not]
  refine Br_i (fun _ => hR _ _ ⟨rfl, x03⟩) fun hb => ?_
  obtain ⟨hv, hlen⟩ := hus (by simpa using hb)
  have hg : ∀ W', Ext w3 W' → Has W' b1 0 g.cells := fun W' x' => has_of_at (((At.ext hat1 x2).ext x3).ext x')
  obtain ⟨n, hn⟩ : ∃ n, n = c.toNat % (L.ents.length + 1) := ⟨_, rfl⟩
  have hnl : n ≤ L.ents.length := by have := Nat.mod_lt c.toNat (show 0 < L.ents.length + 1 by omega); omega
  have ec : c.tmod ((L.ents.length : Int) + 1) = (n : Int) := by
    have := tmod_nat (n := L.ents.length + 1) hc.1
    rw [Int.natCast_add, Int.natCast_one] at this
    rw [this, hn]
  rw [conv_int Ty.u8 Ty.int, i64_wrap (by omega) (by omega), SLog.g_ents (hg w3 (Ext.refl _)), SEntry.row_len (Sl.ext h.2.2 x03), bin_add, i64_wrap (by omega) (by omega), bin_rem (by omega), ec, SLog.g_all (hg w3 (Ext.refl _))]
  refine callF_ret (Chain_ret hok w3 (h.ext x03) (ht.ext x03)) ?_
  rintro _ w4 ⟨rfl, x4⟩
  rw [Rep.chainV_ok hv hnl, ext2_0, ext2_1, SLog.g_all (hg w4 x4)]
  refine SLog.var fun b11 w5 x5 hat5 hb5 => ?_
  obtain ⟨v', hv', hsl⟩ := ents_upto h.2.2 hnl
  obtain ⟨d, rfl⟩ := Hdr.of_sl hv'
  rw [SLog.g_ents (hg w5 (x4.trans x5)), hsl]
  refine SLog.s_ents hat5 fun w6 m6 hat6 _ => ?_
  have x46 : Ext w4 w6 := ext_step x5 m6 hb5
  have x36 := x4.trans x46
  have x06 := x03.trans x36
  have hlog6 : LogIs w6 { g with ents := d } ⟨L.veh, L.rs, L.ents.take n⟩ := ⟨h.1, h.2.1.ext x06, Sl.ext hv' x06⟩
  have hlo6 := hat6.lt
  refine join0 (fun W => Ext w4 W ∧ ∃ sg : SLog, ∃ rs', At W b11 (.cells sg.cells.toArray 49 (0, 0)) ∧ LogIs W sg ⟨L.veh, rs', L.ents.take n⟩ ∧ Rep.Lg.valid ⟨L.veh, rs', L.ents.take n⟩ = true ∧ LogOk ⟨L.veh, rs', L.ents.take n⟩) ?_ fun K hK => ?_
  · rintro _ w7 ⟨x7, sg, rs', hat7, hl7, hv7, hok7⟩
    have x07 := (x03.trans x4).trans x7
    rw [SLog.g_all (has_of_at hat7)]
    refine callF_ret (Chain_ret hok7 w7 hl7 (ht.ext x07)) ?_
    rintro _ w8 ⟨rfl, x8⟩
    have hlt : (L.ents.take n).length = n := by simp; omega
    have ech := Rep.chainV_ok hv7 (n := n) (by show n ≤ (L.ents.take n).length; omega)
    have e3 : ({ veh := L.veh, rs := rs', ents := L.ents.take n } : Rep.Lg).ents.take n = L.ents.take n := List.take_of_length_le (by show (L.ents.take n).length ≤ n; omega)
    rw [e3] at ech
    rw [ech, ext2_0, ext2_1]
    have x08 := x07.trans x8
    have x38 := x4.trans (x7.trans x8)
    rw [SLog.g_veh (hg w8 x38)]
    refine lit_ints [g.veh] rfl (by decide) (by decide) rfl fun v w9 x9 h9 _ => ?_
    refine callF_ret (sum_int_ret (l := [g.veh]) (by intro m hm; rw [List.mem_singleton] at hm; subst hm; rw [h.1]; exact hok.1) w9 (Sl.of_owns h9) (ht.ext (x08.trans x9))) ?_
    rintro _ w10 ⟨rfl, x10⟩
    have x310 := x38.trans (x9.trans x10)
    have x010 := x08.trans (x9.trans x10)
    rw [SLog.g_ents (hg w10 x310), hsl, SEntry.row_len (Sl.ext hv' x010), hlt]
    have hbeg : Dig.sum [g.veh] = Rep.carry (Rep.begin L.veh) ((L.ents.take n).take 0) := by rw [List.take_zero, Rep.carry_nil, h.1, Rep.begin]
    rw [hbeg]
    refine loop2 (fun y x W => ∃ k : Nat, k ≤ n ∧ x = .int .i64 k ∧ y = u64v (Rep.carry (Rep.begin L.veh) ((L.ents.take n).take k)) ∧ Ext w10 W) (fun _ x _ => n - (intOf x).toNat) ⟨0, by omega, rfl, rfl, Ext.refl _⟩ ?_
    rintro hh _ _ W hy hx ⟨k, hk, rfl, rfl, xW⟩ K hK
    have x0W := x010.trans xW
    rw [hx, bin_lss]
    refine Br_i (fun hb2 => ?_) fun hb2 => ?_
    · have hltk : k < (L.ents.take n).length := by have := dec_t hb2; omega
      obtain ⟨bb, oo, hhe, _, hix⟩ := SEntry.row_at hv' hltk
      rw [hix, SEntry.g_all (hhe W x0W)]
      refine SEntry.var fun bq w11 x11 hat11 _ => ?_
      rw [SEntry.g_all (has_of_at hat11)]
      refine callF_ret (Ints_ret _ w11) ?_
      rintro vi w12 ⟨h12, x12'⟩
      rw [hy]
      refine callF_ret (next_ret (l := Rep.eints (L.ents.take n)[k]) (Rep.eints_ok (hok.2.2 _ (List.mem_of_mem_take (List.getElem_mem hltk)))) w12 (Sl.of_owns h12) (ht.ext (x0W.trans (x11.trans x12')))) ?_
      rintro _ w13 ⟨rfl, x13⟩
      rw [bin_add, i64_wrap (by omega) (by omega)]
      refine hK _ _ _ ⟨k + 1, by omega, by simp, by rw [Rep.carry_succ hltk], ((xW.trans x11).trans x12').trans x13⟩ (by simp [intOf]; omega)
    · have hkn : k = n := by have := dec_f hb2; omega
      subst hkn
      rw [Gd_bool, if_pos rfl, bin_eql, decide_eq_true rfl, Gd_bool, if_pos rfl, bin_eql, decide_eq_true rfl, Gd_bool, if_pos rfl, bin_eqv, decide_eq_true rfl, Gd_bool, if_pos rfl, hy, bin_eqv, List.take_of_length_le (show (L.ents.take k).length ≤ k by omega), decide_eq_true rfl]
      exact hR _ _ ⟨rfl, x0W⟩
  · rw [SLog.g_veh (hg w6 x36)]
    obtain ⟨d2, rfl⟩ := h2.hdr
    rw [build_i (new_log2 _ d2)]
    refine SLog.var fun b12 w7 x7 hat7 _ => ?_
    rw [SLog.g_all (has_of_at hat7)]
    have x07 := x06.trans x7
    refine callF_ret (usable_ret (L := ⟨L.veh, rs2, []⟩) w7 ⟨h.1, h2.ext x07, SEntry.row_nil _⟩) ?_
    rintro _ w8 ⟨⟨b2, rfl, hus2⟩, x8⟩
    have x68 := x7.trans x8
    refine Br_i (fun hb2 => ?_) fun _ => hK _ ⟨x46.trans x68, _, L.rs, hat6.ext x68, hlog6.ext x68, Rep.valid_take hv hnl, hok.take n⟩
    refine SLog.s_start (hat6.ext x68) fun w9 m9 hat9 _ => ?_
    have x49 : Ext w4 w9 := ext_step (x46.trans x68) m9 hb5
    have x09 := (x03.trans x4).trans x49
    refine hK _ ⟨x49, _, rs2, hat9, ⟨h.1, h2.ext x09, Sl.ext hv' x09⟩, ?_, ⟨hok.1, hok2, (hok.take n).2.2⟩⟩
    have := Rep.valid_with (hus2 hb2).1 (L.ents.take n)
    rw [this, Rep.follows_take (Rep.valid_fol hv) hnl]
end Go.Proofs.YtjinhojlnaplaaaDoor
/-! ## RepL3 -/
namespace Go.Proofs.YtjinhojlnaplaaaDoor
set_option maxRecDepth 100000
set_option maxHeartbeats 8000000
open Sh Go.RowKit
theorem ReportLogs_ret {g : SLog} {L : Rep.Lg} {c : Int} {x : SEntry} (hok : LogOk L) (hc : 0 ≤ c ∧ c < 256) (hx : x.Ok) (w : World) (h : LogIs w g L) (ht : Tab w) :
    Ret Tryd.prog 12 #[.agg g.cells.toArray, .int .u8 c, .agg x.cells.toArray] w (TrueQ w) := by
  refine ret_of (fun _ _ => sh_landfalllaw24_ReportLogs_ok _ _ _) fun R hR => ?_
  unfold sh_landfalllaw24_ReportLogs
  refine box_i fun b1 w1 x1 hat1 _ _ => ?_
  refine box_i fun b5 w2 x2 hat5 _ _ => ?_
  have hat1 : At w2 b1 _ := At.ext hat1 x2
  have x12 := x1.trans x2
  refine callF_ret (head24_ret w2 (ht.ext x12)) ?_
  rintro _ w3 ⟨rfl, x3⟩
  have x13 := x12.trans x3
  rw [SLog.g_all (has_of_at (At.ext hat1 x3))]
  refine callF_ret (usable_ret w3 (h.ext x13)) ?_
  rintro _ w4 ⟨⟨b, rfl, hus⟩, x4⟩
  have x04 := x13.trans x4
  rw [un_not]
  refine Br_i (fun _ => hR _ _ ⟨rfl, x04⟩) fun hb => ?_
  obtain ⟨hv, hlen⟩ := hus (by simpa using hb)
  have hg : ∀ W', Ext w4 W' → Has W' b1 0 g.cells := fun W' x' => has_of_at (((At.ext hat1 x3).ext x4).ext x')
  have hgx : ∀ W', Ext w4 W' → Has W' b5 0 x.cells := fun W' x' => has_of_at (((At.ext hat5 x3).ext x4).ext x')
  obtain ⟨n, hn⟩ : ∃ n, n = c.toNat % (L.ents.length + 1) := ⟨_, rfl⟩
  have hnl : n ≤ L.ents.length := by have := Nat.mod_lt c.toNat (show 0 < L.ents.length + 1 by omega); omega
  have ec : c.tmod ((L.ents.length : Int) + 1) = (n : Int) := by
    have := tmod_nat (n := L.ents.length + 1) hc.1
    rw [Int.natCast_add, Int.natCast_one] at this
    rw [this, hn]
  rw [conv_int Ty.u8 Ty.int, i64_wrap (by omega) (by omega), SLog.g_ents (hg w4 (Ext.refl _)), SEntry.row_len (Sl.ext h.2.2 x04), bin_add, i64_wrap (by omega) (by omega), bin_rem (by omega), ec, SLog.g_all (hg w4 (Ext.refl _))]
  refine SLog.var fun b9 w5 x5 hat9 hb9 => ?_
  obtain ⟨v', hv', hsl⟩ := ents_upto h.2.2 hnl
  obtain ⟨d, rfl⟩ := Hdr.of_sl hv'
  rw [SLog.g_ents (hg w5 x5), hsl]
  refine SLog.s_ents hat9 fun w6 m6 hat9 _ => ?_
  have x46 : Ext w4 w6 := ext_step x5 m6 hb9
  have x06 := x04.trans x46
  rw [SLog.g_all (has_of_at hat9)]
  refine SLog.var fun b10 w7 x7 hat10 hb10 => ?_
  have x47 := x46.trans x7
  have x07 := x04.trans x47
  have hlt : (L.ents.take n).length = n := by simp; omega
  have hF := Rep.follows_snoc (x := x) (Rep.follows_take (Rep.valid_fol hv) hnl) (by omega) (by decide) (by decide)
  rw [hlt] at hF
  refine drawRX fun w8 x8 hs8 => ?_
  have hat9' := (hat9.ext x7).ext x8
  have x48 := x47.trans x8
  refine det_rx _ (fun w9 x9 K => Ty.SLog_f2) ?_
  refine det_rx d.val (fun w9 x9 K => load_cell Ty.ents_agg (has_at (has_of_at (hat9'.ext x9)) (d := 2) rfl rfl)) ?_
  refine det_rx (.agg x.cells.toArray) (fun w9 x9 K => SEntry.g_all (hgx w9 (x48.trans x9))) ?_
  refine thr_x (fun vs W => ∃ v1 v2, vs = [v1, v2] ∧ SEntry.Owns w8.heap.size W v2 (L.ents.take n)) ?_ ?_
  · refine nd_x (fun v W => ∃ q, v = .slice (some ⟨q, 0, none⟩) 0 0 ∧ SEntry.Owns w8.heap.size W v []) (fun v a b hs hx => by obtain ⟨q, e1, e2⟩ := hs; exact ⟨q, e1, Own.ext e2 hx⟩) (fun w9 x9 _ => ?_) fun v1 => ?_
    · exact ents_lit0 fun x10 h10 => ⟨x10, _, rfl, Own.mono h10 x9.size⟩
    refine nd_x (fun v W => SEntry.Owns w8.heap.size W v (L.ents.take n)) (fun v a b hs hx => Own.ext hs hx) (fun w9 x9 hq => ?_) fun v2 => ?_
    · obtain ⟨q, rfl, hq⟩ := hq
      exact ents_app0 hq (Sl.ext hv' ((x07.trans x8).trans x9)) (by omega) x9.size fun v4 w4 h4 x4 => ⟨x4, h4⟩
    · intro w9 x9 h9
      exact ⟨v1, v2, rfl, h9⟩
  refine thr_x (fun vs W => ∃ v1, vs = [v1] ∧ SEntry.Owns w8.heap.size W v1 [x]) ?_ ?_
  · refine nd_x (fun v W => SEntry.Owns w8.heap.size W v [x]) (fun v a b hs hx => Own.ext hs hx) (fun w9 x9 _ => ?_) fun v1 => ?_
    · exact SEntry.row_lit [x] rfl (by decide) (by decide) rfl fun v4 w4 x4 h4 _ => ⟨x4, Own.mono h4 x9.size⟩
    · intro w9 x9 h9
      exact ⟨v1, rfl, h9⟩
  rintro hh w9 x9 ⟨_, ⟨_, v1, v2, e1, h1⟩, v3, e2, h2⟩
  simp only [List.cons.injEq, and_true] at e1 e2
  rw [e1.2, e2]
  have z9 := x9.size
  have z8 := x8.size
  have l10 := hat10.lt
  refine SEntry.row_apps h1 (Sl.of_owns h2) (by rw [hlt]; simp; omega) (by omega) fun v4 w10 h4 m10 => ?_
  have x7t10 : Ext w7 w10 := ((Mod.of_ext (x8.trans x9) : Mod (w7.heap.size ≤ ·) w7 w9).trans (m10.mono fun k _ hk => by have := (Own.block h1 hk).1; omega)).new
  have hat10' := hat10.ext x7t10
  have hat9'' := (hat9.ext x7).ext x7t10
  obtain ⟨d2, rfl⟩ := Hdr.of_sl (Sl.of_owns h4)
  refine SLog.s_ents hat10' fun w11 m11 hat11 _ => ?_
  have h11 := Own.mod h4 m11 (Own.off_at h4 hat10' (by decide))
  have x6t11 : Ext w6 w11 := ext_step (x7.trans x7t10) m11 hb10
  have x4t11 := x46.trans x6t11
  have x0t11 := x04.trans x4t11
  have hlong : LogIs w11 { g with ents := d2 } ⟨L.veh, L.rs, L.ents.take n ++ [x]⟩ := ⟨h.1, h.2.1.ext x0t11, Sl.of_owns h11⟩
  have hshort : LogIs w11 { g with ents := d } ⟨L.veh, L.rs, L.ents.take n⟩ := ⟨h.1, h.2.1.ext x0t11, Sl.ext hv' x0t11⟩
  have hat9w := hat9.ext x6t11
  refine join1 (fun q W => q = .bool (Rep.follows (L.ents.take n ++ [x]) 1) ∧ Ext w11 W) ?_ fun K1 hK1 => ?_
  · rintro hh q w12 hq ⟨rfl, x12'⟩
    rw [Gd_bool, if_pos rfl, SLog.g_all (has_of_at (hat9w.ext x12'))]
    refine callF_ret ((hshort.ext x12').valid_ret (hok.take n)) ?_
    rintro _ w13 ⟨rfl, x13'⟩
    rw [Rep.valid_take hv hnl, Gd_bool, if_pos rfl, SLog.g_all (has_of_at (hat11.ext (x12'.trans x13')))]
    refine callF_ret ((hlong.ext (x12'.trans x13')).valid_ret ⟨hok.1, hok.2.1, fun e he => ?_⟩) ?_
    · rw [List.mem_append, List.mem_singleton] at he
      rcases he with he | rfl
      · exact hok.2.2 e (List.mem_of_mem_take he)
      · exact hx
    rintro _ w14 ⟨rfl, x14⟩
    rw [Rep.valid_with hv, hq, bool_eql Ty.bool, beq_self_eq_true]
    exact hR _ _ ⟨rfl, ((x0t11.trans x12').trans x13').trans x14⟩
  · rw [hF] at hK1
    refine draw_ext fun w12 x12' => ?_
    have x4t12 := x4t11.trans x12'
    refine det_read (.agg x.cells.toArray) (fun w13 x13 K => SEntry.g_all (hgx w13 (x4t12.trans x13))) ?_
    refine det_ret _ (fun w13 x13 => Form_ret x w13) ?_
    refine Gd_i (fun hb1 => ?_) fun hb1 => fun w13 x13 _ => hK1 _ _ ⟨by rw [hb1]; rfl, x12'.trans x13⟩
    refine det_read _ (fun w13 x13 K => Ty.SEntry_f0) ?_
    refine det_read (.int .i64 x.seq) (fun w13 x13 K => load_cell Ty.int_agg (has_at (hgx w13 (x4t12.trans x13)) (d := 0) rfl rfl)) ?_
    refine det_read (.int .i64 ((n : Int) + 1)) (fun w13 x13 K => by rw [bin_add, i64_wrap (by omega) (by omega)]) ?_
    refine det_read _ (fun w13 x13 K => bin_eql) ?_
    rw [show (1 : Int) + n = n + 1 by omega] at hK1
    refine Gd_i (fun hb2 => ?_) fun hb2 => fun w13 x13 _ => hK1 _ _ ⟨by rw [hb1, hb2]; rfl, x12'.trans x13⟩
    refine det_read _ (fun w13 x13 K => bin_eql) ?_
    refine Gd_i (fun hb3 => ?_) fun hb3 => fun w13 x13 _ => hK1 _ _ ⟨by rw [hb1, hb2, show decide (n = 0) = true by have := dec_t hb3; rw [decide_eq_true_eq]; omega]; rfl, x12'.trans x13⟩
    have hn0 : 0 < n := by have := dec_f hb3; omega
    obtain ⟨bb, oo, hhe, _, hix⟩ := SEntry.row_at h.2.2 (show n - 1 < L.ents.length by omega)
    refine det_read _ (fun w13 x13 K => Ty.SEntry_f1) ?_
    refine det_read (.int .i64 x.time) (fun w13 x13 K => load_cell Ty.int_agg (has_at (hgx w13 (x4t12.trans x13)) (d := 1) rfl rfl)) ?_
    refine det_read _ (fun w13 x13 K => Ty.SLog_f2) ?_
    refine det_read g.ents.val (fun w13 x13 K => load_cell Ty.ents_agg (has_at (hg w13 (x4t12.trans x13)) (d := 2) rfl rfl)) ?_
    refine det_read (.int .i64 ((n - 1 : Nat) : Int)) (fun w13 x13 K => by rw [bin_sub, i64_wrap (by omega) (by omega)]; congr 2; omega) ?_
    refine det_read _ (fun w13 x13 K => hix w13 K _) ?_
    refine det_read _ (fun w13 x13 K => Ty.SEntry_f1) ?_
    refine det_read (.int .i64 L.ents[n - 1].time) (fun w13 x13 K => load_cell Ty.int_agg (has_at (hhe w13 ((x04.trans x4t12).trans x13)) (d := 1) rfl rfl)) ?_
    intro w13 x13 _
    rw [bin_geq]
    refine hK1 _ _ ⟨?_, x12'.trans x13⟩
    rw [hb1, hb2, show decide (n = 0) = false by rw [decide_eq_false_iff_not]; omega, Rep.el_take (show n - 1 < n by omega), Rep.el_of (show n - 1 < L.ents.length by omega)]; rfl
end Go.Proofs.YtjinhojlnaplaaaDoor
/-! ## RepL4 -/
namespace Go.Proofs.YtjinhojlnaplaaaDoor
set_option maxRecDepth 100000
set_option maxHeartbeats 8000000
open Sh Go.RowKit
theorem Rep.ofInts_ok {l : List Int} (h : ∀ n ∈ l, I64 n) (hl : l.length = 12) : (Rep.ofInts l).Ok := by
  match l, hl with
  | [a, b, c, d, e, f, g, x, y, i, j, k], _ =>
    have hh := fun n hn => h n hn
    exact ⟨hh a (by simp), hh b (by simp), hh c (by simp), hh d (by simp), hh e (by simp), hh f (by simp), hh g (by simp), ⟨hh x (by simp), hh y (by simp)⟩, hh i (by simp), hh j (by simp), hh k (by simp)⟩
theorem Rep.changed_ok {e : SEntry} (hf : Rep.formed e = true) {k : Nat} (hk : k < 12) (b : Int) : (Rep.changed e k b).Ok := by
  refine Rep.ofInts_ok (fun n hn => ?_) (by simp [Rep.eints_len])
  have hs := Rep.formed_small hf
  rcases List.mem_or_eq_of_mem_set hn with hn | rfl
  · have := hs n hn; unfold I64; omega
  · have hk' : k < (Rep.eints e).length := by rw [Rep.eints_len]; exact hk
    have e1 : (Rep.eints e)[k]?.getD 0 = (Rep.eints e)[k] := by rw [List.getElem?_eq_getElem hk']; rfl
    have hm := hs _ (List.getElem_mem hk')
    have := Rep.turned_le (b := b) hm.1 hm.2
    rw [e1]; unfold I64; omega
theorem Rep.fol_formed {l : List SEntry} {f : Int} (h : Rep.follows l f = true) {i : Nat} (hi : i < l.length) : Rep.formed l[i] = true := by
  have := (Rep.good_iff.1 ((Rep.follows_iff.1 h).2 i hi)).1
  rwa [Rep.el_of hi] at this
theorem bin_nev {x y : BitVec 64} {K : Value → World → Prop} {X : List PanicEntry → World → Prop} {t : TypeId} {ox oy : Operand} {w : World} {P : Program} : DoV P (binS .neq t ox oy (u64v x) (u64v y)) w K X = K (.bool (!decide (x = y))) w := by
  rw [u64v, u64v, bin_neq]
  congr 3
  rw [decide_eq_decide]
  exact ⟨fun h => BitVec.eq_of_toNat_eq (by omega), fun h => by rw [h]⟩
attribute [local irreducible] Dig.next Dig.sum Rep.carry Rep.begin in
theorem ReportDigits_ret {g : SLog} {L : Rep.Lg} {c b : Int} (hok : LogOk L) (hc : 0 ≤ c ∧ c < 256) (hb : 0 ≤ b ∧ b < 256) (w : World) (h : LogIs w g L) (ht : Tab w) :
    Ret Tryd.prog 8 #[.agg g.cells.toArray, .int .u8 c, .int .u8 b] w (TrueQ w) := by
  refine ret_of (fun _ _ => sh_landfalllaw24_ReportDigits_ok _ _ _) fun R hR => ?_
  unfold sh_landfalllaw24_ReportDigits
  refine box_i fun b1 w1 x1 hat1 _ _ => ?_
  refine callF_ret (head24_ret w1 (ht.ext x1)) ?_
  rintro _ w2 ⟨rfl, x2⟩
  have x02 := x1.trans x2
  have hat2 : At w2 b1 _ := At.ext hat1 x2
  rw [SLog.g_ents (has_of_at hat2), SEntry.row_len (Sl.ext h.2.2 x02)]
  refine join0 (fun W => Ext w2 W ∧ L.valid = true ∧ L.ents.length ≤ 40 ∧ 0 < L.ents.length) ?_ fun K hK => ?_
  · rintro _ w3 ⟨x3, hv, hlen, h0⟩
    have x03 := x02.trans x3
    have hg : ∀ W', Ext w3 W' → Has W' b1 0 g.cells := fun W' x' => has_of_at ((hat2.ext x3).ext x')
    obtain ⟨n, hn⟩ : ∃ n, n = L.ents.length := ⟨_, rfl⟩
    have hlast : n - 1 < L.ents.length := by omega
    have hfm := Rep.fol_formed (Rep.valid_fol hv) hlast
    obtain ⟨k, hk⟩ : ∃ k, k = c.toNat % 12 := ⟨_, rfl⟩
    have hk12 : k < 12 := by omega
    rw [SLog.g_all (hg w3 (Ext.refl _))]
    refine SLog.var fun b9 w4 x4 hat4 hb9 => ?_
    refine draw_ext fun w5 x5 => ?_
    have x35 := x4.trans x5
    obtain ⟨bb, oo, hhe, _, hix⟩ := SEntry.row_at h.2.2 hlast
    refine det_read _ (fun w6 x6 K => Ty.SLog_f2) ?_
    refine det_read g.ents.val (fun w6 x6 K => load_cell Ty.ents_agg (has_at (hg w6 (x35.trans x6)) (d := 2) rfl rfl)) ?_
    refine det_read _ (fun w6 x6 K => Ty.SLog_f2) ?_
    refine det_read g.ents.val (fun w6 x6 K => load_cell Ty.ents_agg (has_at (hg w6 (x35.trans x6)) (d := 2) rfl rfl)) ?_
    refine det_read (.int .i64 ((n - 1 : Nat) : Int)) (fun w6 x6 K => by rw [bin_sub, i64_wrap (by omega) (by omega)]; congr 2; omega) ?_
    refine det_read _ (fun w6 x6 K => hix w6 K _) ?_
    refine det_read (.agg (L.ents[n - 1]).cells.toArray) (fun w6 x6 K => SEntry.g_all (hhe w6 ((x03.trans x35).trans x6))) ?_
    refine det_ret _ (fun w6 x6 => changed_ret hfm hc hb w6) ?_
    intro w6 x6 _
    rw [← hk]
    have x36 := x35.trans x6
    have x06 := x03.trans x36
    obtain ⟨e', he'⟩ : ∃ e', e' = Rep.changed L.ents[n - 1] k b := ⟨_, rfl⟩
    have heo : e'.Ok := by rw [he']; exact Rep.changed_ok hfm hk12 b
    rw [← he']
    refine callF_ret (with_ret w6 (Sl.ext h.2.2 x06) h0 (by omega)) ?_
    rintro vw w7 ⟨h7, x7⟩
    rw [← hn] at h7
    obtain ⟨d, rfl⟩ := Hdr.of_sl (Sl.of_owns h7)
    have hat7 := (hat4.ext (x5.trans x6)).ext x7
    refine SLog.s_ents hat7 fun w8 m8 hat8 _ => ?_
    have h8 := Own.mod h7 m8 (Own.off_at h7 hat7 (by decide))
    have x38 : Ext w3 w8 := ext_step (x36.trans x7) m8 hb9
    have x08 := x03.trans x38
    have hother : LogIs w8 { g with ents := d } ⟨L.veh, L.rs, L.ents.take (n - 1) ++ [e']⟩ := ⟨h.1, h.2.1.ext x08, Sl.of_owns h8⟩
    have hoko : LogOk ⟨L.veh, L.rs, L.ents.take (n - 1) ++ [e']⟩ := ⟨hok.1, hok.2.1, fun e he => by
      rw [List.mem_append, List.mem_singleton] at he
      rcases he with he | rfl
      · exact hok.2.2 e (List.mem_of_mem_take he)
      · exact heo⟩
    have htl : (L.ents.take (n - 1)).length = n - 1 := by simp; omega
    have hol : (L.ents.take (n - 1) ++ [e']).length = n := by rw [List.length_append, htl]; simp; omega
    rw [SLog.g_all (hg w8 x38), ← hn]
    refine callF_ret (Chain_ret hok w8 (h.ext x08) (ht.ext x08)) ?_
    rintro _ w9 ⟨rfl, x9⟩
    rw [Rep.chainV_ok hv (n := n) (by omega), ext2_0, ext2_1, SLog.g_all (has_of_at (hat8.ext x9))]
    refine callF_ret (Chain_ret hoko w9 (hother.ext x9) (ht.ext (x08.trans x9))) ?_
    rintro _ w10 ⟨rfl, x10⟩
    rw [ext2_0, ext2_1]
    have x810 := x9.trans x10
    have etk : L.ents.take n = L.ents.take (n - 1) ++ [L.ents[n - 1]] := by
      have := List.take_succ_eq_append_getElem hlast
      rwa [show n - 1 + 1 = n by omega] at this
    by_cases hvo : Rep.Lg.valid ⟨L.veh, L.rs, L.ents.take (n - 1) ++ [e']⟩ = true
    · have hch := Rep.chainV_ok hvo (n := n) (by show n ≤ (L.ents.take (n - 1) ++ [e']).length; omega)
      rw [show ({ veh := L.veh, rs := L.rs, ents := L.ents.take (n - 1) ++ [e'] } : Rep.Lg).ents.take n = L.ents.take (n - 1) ++ [e'] from List.take_of_length_le (by show (L.ents.take (n - 1) ++ [e']).length ≤ n; omega)] at hch
      have hd := Rep.changed_digits L.ents[n - 1] hk12 b (Rep.carry (Rep.begin L.veh) (L.ents.take (n - 1)))
      rw [← he'] at hd
      have key : decide (Rep.carry (Rep.begin L.veh) (L.ents.take n) = Rep.carry (Rep.begin L.veh) (L.ents.take (n - 1) ++ [e'])) = decide (e' = L.ents[n - 1]) := by
        rw [decide_eq_decide, etk, Rep.carry_append, Rep.carry_append, Rep.carry_one, Rep.carry_one, ← hd]
        exact ⟨fun h => h.symm, fun h => h.symm⟩
      rw [hch]
      refine join0 (fun W => Ext w10 W) ?_ fun K2 hK2 => ?_
      · rintro _ w11 x11
        have x811 := x810.trans x11
        refine draw_ext fun w12 x12 => ?_
        have x812 := x811.trans x12
        rw [Gd_bool, if_pos rfl]
        refine det_read (.bool (!decide (e' = L.ents[n - 1]))) (fun w13 x13 K => ?_) ?_
        · rw [bin_nev, key]
        refine Gd_i (fun hq => ?_) fun hq => fun w13 x13 _ => hR _ _ ⟨rfl, (x08.trans x812).trans x13⟩
        have heq : e' = L.ents[n - 1] := by simpa using hq
        have h12 := Own.ext h8 x812
        obtain ⟨b2, o2, hh2, _, hix2⟩ := SEntry.row_at (Sl.of_owns h12) (show n - 1 < (L.ents.take (n - 1) ++ [e']).length by omega)
        have eg : (L.ents.take (n - 1) ++ [e'])[n - 1]'(by omega) = e' := by simp [htl]
        refine det_read _ (fun w13 x13 K => Ty.SLog_f2) ?_
        refine det_read d.val (fun w13 x13 K => load_cell Ty.ents_agg (has_at (has_of_at (hat8.ext (x812.trans x13))) (d := 2) rfl rfl)) ?_
        refine det_read (.int .i64 ((n - 1 : Nat) : Int)) (fun w13 x13 K => by rw [bin_sub, i64_wrap (by omega) (by omega)]; congr 2; omega) ?_
        refine det_read _ (fun w13 x13 K => hix2 w13 K _) ?_
        refine det_read (.agg e'.cells.toArray) (fun w13 x13 K => by rw [← eg]; exact SEntry.g_all (hh2 w13 x13)) ?_
        refine det_read _ (fun w13 x13 K => Ty.SLog_f2) ?_
        refine det_read g.ents.val (fun w13 x13 K => load_cell Ty.ents_agg (has_at (hg w13 ((x38.trans x812).trans x13)) (d := 2) rfl rfl)) ?_
        refine det_read (.int .i64 ((n - 1 : Nat) : Int)) (fun w13 x13 K => by rw [bin_sub, i64_wrap (by omega) (by omega)]; congr 2; omega) ?_
        refine det_read _ (fun w13 x13 K => hix w13 K _) ?_
        refine det_read (.agg (L.ents[n - 1]).cells.toArray) (fun w13 x13 K => SEntry.g_all (hhe w13 ((x08.trans x812).trans x13))) ?_
        intro w13 x13 _
        rw [SEntry.eql, decide_eq_true heq]
        exact hR _ _ ⟨rfl, (x08.trans x812).trans x13⟩
      · refine join_in fun K3 hK3 => ?_
        rw [bin_neq, decide_eq_true rfl]
        refine Gd_i (fun _ => ?_) fun hh => by cases hh
        rw [bin_neq, decide_eq_true rfl]
        refine leaf1 hK3 fun h hh => ?_
        rw [hh]
        exact br_f (hK2 _ (Ext.refl _))
    · have hch : Rep.chainV ⟨L.veh, L.rs, L.ents.take (n - 1) ++ [e']⟩ n = (0, 1) := by rw [Rep.chainV, if_neg fun hh => hvo hh.1]
      rw [hch]
      have hvo' : Rep.Lg.valid ⟨L.veh, L.rs, L.ents.take (n - 1) ++ [e']⟩ = false := by simpa using hvo
      refine join0 (fun W => False) (fun _ W hF => hF.elim) fun K2 hK2 => ?_
      refine join_in fun K3 hK3 => ?_
      rw [bin_neq, decide_eq_true rfl]
      refine Gd_i (fun _ => ?_) fun hh => by cases hh
      rw [bin_neq, show (decide ((1 : Int) = 0)) = false from rfl]
      refine leaf1 hK3 fun h hh => ?_
      rw [hh]
      refine br_t ?_
      rw [Gd_bool, if_pos rfl, bin_eql, decide_eq_true rfl, Gd_bool, if_pos rfl, bin_eql, decide_eq_true rfl, Gd_bool, if_pos rfl, SLog.g_all (has_of_at (hat8.ext x810))]
      refine callF_ret ((hother.ext x810).valid_ret hoko) ?_
      rintro _ w11 ⟨rfl, x11⟩
      rw [hvo', un_not]
      exact hR _ _ ⟨rfl, (x08.trans x810).trans x11⟩
  · refine join_in fun K2 hK1 => ?_
    rw [SLog.g_all (has_of_at hat2)]
    refine callF_ret (usable_ret w2 (h.ext x02)) ?_
    rintro _ w3 ⟨⟨bf, rfl, hbf⟩, x3⟩
    rw [un_not]
    refine Gd_i (fun hb => ?_) fun hb => leaf1 hK1 fun h hh => by rw [hh]; exact br_t (hR _ _ ⟨rfl, x02.trans x3⟩)
    have hb := hbf (by simpa using hb)
    rw [bin_eql]
    refine leaf1 hK1 fun h hh => ?_
    rw [hh]
    exact Br_i (fun _ => hR _ _ ⟨rfl, x02.trans x3⟩) fun hb2 => hK _ ⟨x3, hb.1, hb.2, by have := dec_f hb2; omega⟩
end Go.Proofs.YtjinhojlnaplaaaDoor
/-! ## RepL5 -/
namespace Go.Proofs.YtjinhojlnaplaaaDoor
set_option maxRecDepth 100000
set_option maxHeartbeats 8000000
open Sh Go.RowKit
theorem Rep.made_repok {L : Rep.Lg} (hok : LogOk L) {f : Int} (hf : I64 f) {l : Int} {s o : Nat} (hlen : L.ents.length < 1000000) (hs : 1 ≤ s ∧ s < Sig.Q) (ho : 1 ≤ o ∧ o < Sig.Q) : RepOk (Rep.made L f l s o) := by
  have hq : Sig.Q = 1073741789 := rfl
  refine ⟨hok.1, hf, fun e he => hok.2.2 e (List.mem_of_mem_take (List.mem_of_mem_drop he)), ?_, ?_⟩
  · rw [Rep.made_sig hs ho]
    obtain ⟨e, h1, h2, _, h4⟩ := Sig.sigOf_e s o (Rep.msg (Rep.made L f l s o))
    have h5 := Nat.mod_lt (o + e * s) (show 0 < Sig.Q by decide)
    exact ⟨by rw [h1]; unfold I64; omega, by rw [h4]; unfold I64; omega⟩
  · show ((L.ents.take l.toNat).drop (f.toNat - 1)).length ≤ _
    simp only [List.length_drop, List.length_take]; omega
theorem Rep.made_chain2 {L : Rep.Lg} {n m : Nat} (hn : 1 ≤ n) (hnm : n ≤ m) {s o : Int} : (Rep.made L n m s o).chain = Rep.carry (Rep.begin L.veh) (L.ents.take m) := by
  show Rep.carry (Rep.carry (Rep.begin L.veh) (L.ents.take (n - 1))) ((L.ents.take m).drop (n - 1)) = _
  rw [← Rep.carry_append, Rep.take_part (by omega)]
attribute [local irreducible] Dig.next Dig.sum Rep.carry Rep.begin in
theorem ReportRight_ret {g : SLog} {L : Rep.Lg} {c b : Int} {s o : Nat} (hok : LogOk L) (hc : 0 ≤ c ∧ c < 256) (hb : 0 ≤ b ∧ b < 256) (hs : s < 65536) (ho : o < 65536) (w : World) (h : LogIs w g L) (ht : Tab w) :
    Ret Tryd.prog 9 #[.agg g.cells.toArray, .int .u8 c, .int .u8 b, .int .u16 s, .int .u16 o] w (TrueQ w) := by
  refine ret_of (fun _ _ => sh_landfalllaw24_ReportRight_ok _ _ _ _ _) fun R hR => ?_
  unfold sh_landfalllaw24_ReportRight
  have hq : Sig.Q = 1073741789 := rfl
  refine box_i fun b1 w1 x1 hat1 _ _ => ?_
  refine callF_ret (head24_ret w1 (ht.ext x1)) ?_
  rintro _ w2 ⟨rfl, x2⟩
  have x02 := x1.trans x2
  have hat2 : At w2 b1 _ := At.ext hat1 x2
  rw [SLog.g_ents (has_of_at hat2), SEntry.row_len (Sl.ext h.2.2 x02)]
  refine join0 (fun W => Ext w2 W ∧ L.valid = true ∧ L.ents.length ≤ 40 ∧ 0 < L.ents.length) ?_ fun K hK => ?_
  · rintro _ w3 ⟨x3, hv, hlen, h0⟩
    have x03 := x02.trans x3
    have hg : ∀ W', Ext w3 W' → Has W' b1 0 g.cells := fun W' x' => has_of_at ((hat2.ext x3).ext x')
    obtain ⟨N, hN⟩ : ∃ N, N = L.ents.length := ⟨_, rfl⟩
    rw [← hN]
    obtain ⟨n, hn⟩ : ∃ n, n = 1 + c.toNat % N := ⟨_, rfl⟩
    have hcm := Nat.mod_lt c.toNat (show 0 < N by omega)
    obtain ⟨m, hm⟩ : ∃ m, m = n + b.toNat % (N + 1 - n) := ⟨_, rfl⟩
    have hbm := Nat.mod_lt b.toNat (show 0 < N + 1 - n by omega)
    have en : (1 : Int) + ((c.toNat % N : Nat) : Int) = (n : Int) := by omega
    have eN : (N : Int) + 1 - n = ((N + 1 - n : Nat) : Int) := by omega
    have em : (n : Int) + ((b.toNat % (N + 1 - n) : Nat) : Int) = (m : Int) := by omega
    rw [conv_int Ty.u8 Ty.int, i64_wrap (by omega) (by omega), bin_rem (by omega), tmod_nat hc.1, bin_add, i64_wrap (by omega) (by omega), en, conv_int Ty.u8 Ty.int, i64_wrap (by omega) (by omega), bin_add, i64_wrap (by omega) (by omega), bin_sub, i64_wrap (by omega) (by omega), eN, bin_rem (by omega), tmod_nat hb.1, bin_add, i64_wrap (by omega) (by omega), em]
    have hn1 : 1 ≤ n := by omega
    have hnm : n ≤ m := by omega
    have hmN : m ≤ L.ents.length := by omega
    refine callF_ret (secrets_ret hs ho w3) ?_
    rintro _ w4 ⟨rfl, x4⟩
    have hs' : 1 ≤ s + 1 ∧ s + 1 < Sig.Q := by omega
    have ho' : 1 ≤ o + 1 ∧ o + 1 < Sig.Q := by omega
    rw [ext4_0, ext4_1, ext4_2, ext4_3, SLog.g_all (hg w4 x4)]
    have x04 := x03.trans x4
    have hI : I64 (n : Int) := by unfold I64; omega
    refine callF_ret (Make_ret hok hI (by omega) w4 (h.ext x04) (ht.ext x04)) ?_
    rintro _ w5 ⟨r, rfl, hr, x5, _⟩
    rw [Rep.makeV_ok hv hn1 hnm hmN hs' ho'] at hr ⊢
    have hr : RepIs w5 r (Rep.made L n m (s + 1 : Nat) (o + 1 : Nat)) := hr
    rw [ext2_0, ext2_1]
    refine SReport.var fun b19 w6 x6 hat6 hb6 => ?_
    rw [SReport.g_all (has_of_at hat6)]
    have x46 := x5.trans x6
    have x36 := x4.trans x46
    have x06 := x03.trans x36
    refine callF_ret (Check_ret (Rep.made_repok hok hI (by omega) hs' ho') w6 (hr.ext x6) (ht.ext x06)) ?_
    rintro _ w7 ⟨rfl, x7⟩
    rw [Rep.made_right hv hn1 hnm hmN hs' ho', ext2_0, ext2_1, SLog.g_all (hg w7 (x36.trans x7)), bin_sub, i64_wrap (by omega) (by omega), show (n : Int) - 1 = ((n - 1 : Nat) : Int) by omega]
    have x07 := x06.trans x7
    refine callF_ret (Chain_ret hok w7 (h.ext x07) (ht.ext x07)) ?_
    rintro _ w8 ⟨rfl, x8⟩
    rw [Rep.chainV_ok hv (n := n - 1) (by omega), ext2_0, ext2_1, SLog.g_all (hg w8 ((x36.trans x7).trans x8))]
    have x08 := x07.trans x8
    refine callF_ret (Chain_ret hok w8 (h.ext x08) (ht.ext x08)) ?_
    rintro _ w9 ⟨rfl, x9⟩
    rw [Rep.chainV_ok hv (n := m) (by omega), ext2_0, ext2_1]
    have x69 := (x7.trans x8).trans x9
    refine join0 (fun W => Ext w9 W) ?_ fun K2 hK2 => ?_
    · rintro _ w10 x10
      have x610 := x69.trans x10
      refine draw_ext fun w11 x11 => ?_
      have x611 := x610.trans x11
      have hgr : ∀ W', Ext w11 W' → Has W' b19 0 r.cells := fun W' x' => has_of_at ((hat6.ext x611).ext x')
      have hg11 : ∀ W', Ext w11 W' → Has W' b1 0 g.cells := fun W' x' => hg W' ((x36.trans x611).trans x')
      have hbf : (Rep.made L n m (s + 1 : Nat) (o + 1 : Nat)).before = Rep.carry (Rep.begin L.veh) (L.ents.take (n - 1)) := rfl
      have hchn := Rep.made_chain2 (L := L) hn1 hnm (s := (s + 1 : Nat)) (o := (o + 1 : Nat))
      obtain ⟨v', hv', hsl⟩ := ents_part h.2.2 (show n - 1 ≤ m by omega) hmN
      rw [Gd_bool, if_pos rfl]
      refine det_read _ (fun w12 x12 K => Ty.SReport_f0) ?_
      refine det_read (.int .i64 r.veh) (fun w12 x12 K => load_cell Ty.int_agg (has_at (hgr w12 x12) (d := 0) rfl rfl)) ?_
      refine det_read _ (fun w12 x12 K => Ty.SLog_f0) ?_
      refine det_read (.int .i64 g.veh) (fun w12 x12 K => load_cell Ty.int_agg (has_at (hg11 w12 x12) (d := 0) rfl rfl)) ?_
      refine det_read _ (fun w12 x12 K => bin_eql) ?_
      rw [decide_eq_true (show r.veh = g.veh by rw [hr.1, h.1]; rfl), Gd_bool, if_pos rfl]
      refine det_read _ (fun w12 x12 K => Ty.SReport_f1) ?_
      refine det_read (.int .i64 r.first) (fun w12 x12 K => load_cell Ty.int_agg (has_at (hgr w12 x12) (d := 1) rfl rfl)) ?_
      refine det_read _ (fun w12 x12 K => bin_eql) ?_
      rw [decide_eq_true (show r.first = n by rw [hr.2.1]; rfl), Gd_bool, if_pos rfl]
      refine det_read _ (fun w12 x12 K => Ty.SReport_f3) ?_
      refine det_read (u64v r.before) (fun w12 x12 K => load_cell Ty.u64_agg (has_at (hgr w12 x12) (d := 3) rfl rfl)) ?_
      refine det_read _ (fun w12 x12 K => bin_eqv) ?_
      rw [decide_eq_true (show r.before = _ from hr.2.2.2.1.trans hbf), Gd_bool, if_pos rfl]
      refine det_read _ (fun w12 x12 K => Ty.SReport_f4) ?_
      refine det_read (u64v r.chain) (fun w12 x12 K => load_cell Ty.u64_agg (has_at (hgr w12 x12) (d := 4) rfl rfl)) ?_
      refine det_read _ (fun w12 x12 K => bin_eqv) ?_
      rw [decide_eq_true (show r.chain = _ from hr.2.2.2.2.1.trans hchn), Gd_bool, if_pos rfl]
      refine det_read _ (fun w12 x12 K => Ty.SReport_f2) ?_
      refine det_read r.ents.val (fun w12 x12 K => load_cell Ty.ents_agg (has_at (hgr w12 x12) (d := 2) rfl rfl)) ?_
      refine det_read _ (fun w12 x12 K => Ty.SLog_f2) ?_
      refine det_read g.ents.val (fun w12 x12 K => load_cell Ty.ents_agg (has_at (hg11 w12 x12) (d := 2) rfl rfl)) ?_
      refine det_read (.int .i64 ((n - 1 : Nat) : Int)) (fun w12 x12 K => by rw [bin_sub, i64_wrap (by omega) (by omega)]; congr 2; omega) ?_
      refine det_read v' (fun w12 x12 K => hsl w12 K _) ?_
      intro w12 x12 _
      have x0t12 := (x06.trans x611).trans x12
      refine callF_ret (SameEntries_ret w12 (Sl.ext hr.2.2.1 ((x6.trans x611).trans x12)) (Sl.ext hv' x0t12)) ?_
      rintro _ w13 ⟨rfl, x13⟩
      exact hR _ _ ⟨congrArg Value.bool (decide_eq_true rfl), x0t12.trans x13⟩
    · refine join_in fun K3 hK3 => ?_
      simp only [bin_neq, un_not, Gd_bool, decide_true, Bool.not_true, if_true]
      refine leaf1 hK3 fun h hh => ?_
      rw [hh]
      exact br_f (hK2 _ (Ext.refl _))
  · refine join_in fun K2 hK1 => ?_
    rw [SLog.g_all (has_of_at hat2)]
    refine callF_ret (usable_ret w2 (h.ext x02)) ?_
    rintro _ w3 ⟨⟨bf, rfl, hbf⟩, x3⟩
    rw [un_not]
    refine Gd_i (fun hb => ?_) fun hb => leaf1 hK1 fun h hh => by rw [hh]; exact br_t (hR _ _ ⟨rfl, x02.trans x3⟩)
    have hb := hbf (by simpa using hb)
    rw [bin_eql]
    refine leaf1 hK1 fun h hh => ?_
    rw [hh]
    exact Br_i (fun _ => hR _ _ ⟨rfl, x02.trans x3⟩) fun hb2 => hK _ ⟨x3, hb.1, hb.2, by have := dec_f hb2; omega⟩
end Go.Proofs.YtjinhojlnaplaaaDoor
/-! ## RepL6 -/
namespace Go.Proofs.YtjinhojlnaplaaaDoor
set_option maxRecDepth 100000
set_option maxHeartbeats 8000000
open Sh Go.RowKit
attribute [local irreducible] Dig.next Dig.sum Rep.carry Rep.begin in
theorem ReportParts_ret {g : SLog} {L : Rep.Lg} {c e b : Int} {s o : Nat} (hok : LogOk L) (hc : 0 ≤ c ∧ c < 256) (he : 0 ≤ e ∧ e < 256) (hb : 0 ≤ b ∧ b < 256) (hs : s < 65536) (ho : o < 65536) (w : World) (h : LogIs w g L) (ht : Tab w) :
    Ret Tryd.prog 10 #[.agg g.cells.toArray, .int .u8 c, .int .u8 e, .int .u8 b, .int .u16 s, .int .u16 o] w (TrueQ w) := by
  refine ret_of (fun _ _ => sh_landfalllaw24_ReportParts_ok _ _ _ _ _ _) fun R hR => ?_
  unfold sh_landfalllaw24_ReportParts
  have hq : Sig.Q = 1073741789 := rfl
  refine box_i fun b1 w1 x1 hat1 _ _ => ?_
  refine callF_ret (head24_ret w1 (ht.ext x1)) ?_
  rintro _ w2 ⟨rfl, x2⟩
  have x02 := x1.trans x2
  have hat2 : At w2 b1 _ := At.ext hat1 x2
  rw [SLog.g_ents (has_of_at hat2), SEntry.row_len (Sl.ext h.2.2 x02)]
  refine join0 (fun W => Ext w2 W ∧ L.valid = true ∧ L.ents.length ≤ 40 ∧ 2 ≤ L.ents.length) ?_ fun K hK => ?_
  · rintro _ w3 ⟨x3, hv, hlen, h0⟩
    have x03 := x02.trans x3
    have hg : ∀ W', Ext w3 W' → Has W' b1 0 g.cells := fun W' x' => has_of_at ((hat2.ext x3).ext x')
    obtain ⟨N, hN⟩ : ∃ N, N = L.ents.length := ⟨_, rfl⟩
    rw [← hN]
    have eN1 : (N : Int) - 1 = ((N - 1 : Nat) : Int) := by omega
    obtain ⟨n, hn⟩ : ∃ n, n = 1 + c.toNat % (N - 1) := ⟨_, rfl⟩
    have hcm := Nat.mod_lt c.toNat (show 0 < N - 1 by omega)
    obtain ⟨m, hm⟩ : ∃ m, m = n + 1 + b.toNat % (N - n) := ⟨_, rfl⟩
    have hbm := Nat.mod_lt b.toNat (show 0 < N - n by omega)
    obtain ⟨q, hqq⟩ : ∃ q, q = n + e.toNat % (m - n) := ⟨_, rfl⟩
    have hqm := Nat.mod_lt e.toNat (show 0 < m - n by omega)
    have en : (1 : Int) + ((c.toNat % (N - 1) : Nat) : Int) = (n : Int) := by omega
    have eN : (N : Int) - n = ((N - n : Nat) : Int) := by omega
    have em : (n : Int) + 1 + ((b.toNat % (N - n) : Nat) : Int) = (m : Int) := by omega
    have emn : (m : Int) - n = ((m - n : Nat) : Int) := by omega
    have eq : (n : Int) + ((e.toNat % (m - n) : Nat) : Int) = (q : Int) := by omega
    rw [conv_int Ty.u8 Ty.int, i64_wrap (by omega) (by omega), bin_sub, i64_wrap (by omega) (by omega), eN1, bin_rem (by omega), tmod_nat hc.1, bin_add, i64_wrap (by omega) (by omega), en, bin_add, i64_wrap (by omega) (by omega), conv_int Ty.u8 Ty.int, i64_wrap (by omega) (by omega), bin_sub, i64_wrap (by omega) (by omega), eN, bin_rem (by omega), tmod_nat hb.1, bin_add, i64_wrap (by omega) (by omega), em,
      conv_int Ty.u8 Ty.int, i64_wrap (by omega) (by omega), bin_sub, i64_wrap (by omega) (by omega), emn, bin_rem (by omega), tmod_nat he.1, bin_add, i64_wrap (by omega) (by omega), eq]
    have hn1 : 1 ≤ n := by omega
    have hnq : n ≤ q := by omega
    have hqm : q < m := by omega
    have hmN : m ≤ L.ents.length := by omega
    refine callF_ret (secrets_ret hs ho w3) ?_
    rintro _ w4 ⟨rfl, x4⟩
    have hs' : 1 ≤ s + 1 ∧ s + 1 < Sig.Q := by omega
    have ho' : 1 ≤ o + 1 ∧ o + 1 < Sig.Q := by omega
    rw [ext4_0, ext4_1, ext4_2, ext4_3, SLog.g_all (hg w4 x4)]
    have x04 := x03.trans x4
    have hI : I64 (n : Int) := by unfold I64; omega
    refine callF_ret (Make_ret hok hI (by omega) w4 (h.ext x04) (ht.ext x04)) ?_
    rintro _ w5 ⟨ra, rfl, hra, x5, _⟩
    rw [Rep.makeV_ok hv hn1 hnq (by omega) hs' ho'] at hra ⊢
    have hra : RepIs w5 ra (Rep.made L n q (s + 1 : Nat) (o + 1 : Nat)) := hra
    rw [ext2_0, ext2_1]
    refine SReport.var fun ba w6 x6 hata _ => ?_
    have x36 := x4.trans (x5.trans x6)
    have x06 := x03.trans x36
    have eq1 : (q : Int) + 1 = ((q + 1 : Nat) : Int) := by omega
    rw [SLog.g_all (hg w6 x36), bin_add, i64_wrap (by omega) (by omega), eq1]
    refine callF_ret (Make_ret hok (by unfold I64; omega) (by omega) w6 (h.ext x06) (ht.ext x06)) ?_
    rintro _ w7 ⟨rb, rfl, hrb, x7, _⟩
    rw [Rep.makeV_ok hv (show 1 ≤ q + 1 by omega) (show q + 1 ≤ m by omega) hmN hs' ho'] at hrb ⊢
    have hrb : RepIs w7 rb (Rep.made L (q + 1 : Nat) m (s + 1 : Nat) (o + 1 : Nat)) := hrb
    rw [ext2_0, ext2_1]
    refine SReport.var fun bb w8 x8 hatb _ => ?_
    have x68 := x7.trans x8
    have x38 := x36.trans x68
    have x08 := x06.trans x68
    rw [SLog.g_all (hg w8 x38)]
    refine callF_ret (Make_ret hok hI (by omega) w8 (h.ext x08) (ht.ext x08)) ?_
    rintro _ w9 ⟨rc, rfl, hrc, x9, _⟩
    rw [Rep.makeV_ok hv hn1 (show n ≤ m by omega) hmN hs' ho'] at hrc ⊢
    have hrc : RepIs w9 rc (Rep.made L n m (s + 1 : Nat) (o + 1 : Nat)) := hrc
    rw [ext2_0, ext2_1]
    refine SReport.var fun bc w10 x10 hatc _ => ?_
    have x810 := x9.trans x10
    have x010 := x08.trans x810
    have hra := hra.ext ((x6.trans x68).trans x810)
    have hrb := hrb.ext (x8.trans x810)
    have hrc := hrc.ext x10
    have hata := hata.ext (x68.trans x810)
    have hatb := hatb.ext x810
    refine join0 (fun W => Ext w10 W) ?_ fun K2 hK2 => ?_
    · rintro _ w11 x11
      have x011 := x010.trans x11
      rw [SReport.g_all (has_of_at (hata.ext x11)), SReport.g_all (has_of_at (hatb.ext x11)), SReport.g_all (has_of_at (hatc.ext x11))]
      refine SReport.row_lit [ra, rb, rc] rfl (by decide) (by decide) rfl fun v12 w12 x12 h12 _ => ?_
      have hrow : SReport.Row w12 v12 [ra, rb, rc] := Sl.of_owns h12
      rw [SReport.row_len hrow]
      have x1012 := x11.trans x12
      have x012 := x010.trans x1012
      obtain ⟨rs, hrs⟩ : ∃ rs, rs = [(ra, Rep.made L n q (s + 1 : Nat) (o + 1 : Nat)), (rb, Rep.made L (q + 1 : Nat) m (s + 1 : Nat) (o + 1 : Nat)), (rc, Rep.made L n m (s + 1 : Nat) (o + 1 : Nat))] := ⟨_, rfl⟩
      have each : ∀ k (hk : k < 3), RepIs w10 ([ra, rb, rc][k]'hk) (rs[k]'(by rw [hrs]; exact hk)).2 ∧ RepOk (rs[k]'(by rw [hrs]; exact hk)).2 ∧ Rep.checkV (rs[k]'(by rw [hrs]; exact hk)).2 ((Sig.pw 4 (s + 1) : Nat) : Int) = (true, 0) := fun k hk => by
        subst hrs
        match k, hk with
        | 0, _ => exact ⟨hra, Rep.made_repok hok hI (by omega) hs' ho', Rep.made_right hv hn1 hnq (by omega) hs' ho'⟩
        | 1, _ => exact ⟨hrb, Rep.made_repok hok (by unfold I64; omega) (by omega) hs' ho', Rep.made_right hv (show 1 ≤ q + 1 by omega) (show q + 1 ≤ m by omega) hmN hs' ho'⟩
        | 2, _ => exact ⟨hrc, Rep.made_repok hok hI (by omega) hs' ho', Rep.made_right hv hn1 (show n ≤ m by omega) hmN hs' ho'⟩
      refine loop2 (fun y x W => ∃ k : Nat, k ≤ 3 ∧ x = .int .i64 k ∧ y = .bool true ∧ Ext w12 W) (fun _ x _ => 3 - (intOf x).toNat) ⟨0, by omega, rfl, rfl, Ext.refl _⟩ ?_
      rintro hh _ _ W hy hx ⟨k, hk, rfl, rfl, xW⟩ K3 hK3
      have x0W := x012.trans xW
      rw [hx, bin_lss]
      refine Br_i (fun hb2 => ?_) fun hb2 => ?_
      · have hlt : k < 3 := by have := dec_t hb2; simp only [List.length_cons, List.length_nil] at this; omega
        obtain ⟨g1, g2, g3⟩ := each k hlt
        refine join1 (fun q W' => q = .bool true ∧ Ext W W') ?_ fun K4 hK4 => ?_
        · rintro hh2 q2 w13 hq2 ⟨rfl, x13⟩
          rw [bin_add, i64_wrap (by omega) (by omega), hq2]
          exact hK3 _ _ _ ⟨k + 1, by omega, by simp, rfl, xW.trans x13⟩ (by simp [intOf]; omega)
        · obtain ⟨bk, ok, hhk, _, hix⟩ := SReport.row_at hrow hlt
          rw [hix, SReport.g_all (hhk W xW)]
          refine SReport.var fun b29 w13 x13 hat13 _ => ?_
          rw [SReport.g_all (has_of_at hat13)]
          refine callF_ret (Check_ret g2 w13 (g1.ext ((x1012.trans xW).trans x13)) (ht.ext (x0W.trans x13))) ?_
          rintro _ w14 ⟨rfl, x14⟩
          rw [g3, ext2_0, ext2_1, hy, Gd_bool, if_pos rfl, bin_eql, decide_eq_true rfl, Gd_bool, if_pos rfl]
          exact hK4 _ _ ⟨rfl, x13.trans x14⟩
      · have x1W := x1012.trans xW
        have hta : ∀ W', Ext W W' → Has W' ba 0 ra.cells := fun W' x' => has_of_at (hata.ext (x1W.trans x'))
        have htb : ∀ W', Ext W W' → Has W' bb 0 rb.cells := fun W' x' => has_of_at (hatb.ext (x1W.trans x'))
        have htc : ∀ W', Ext W W' → Has W' bc 0 rc.cells := fun W' x' => has_of_at (hatc.ext (x1W.trans x'))
        refine drawRX fun w13 x13 hs13 => ?_
        have x113 := x1W.trans x13
        refine det_rx _ (fun w14 x14 K => Ty.SReport_f2) ?_
        refine det_rx ra.ents.val (fun w14 x14 K => load_cell Ty.ents_agg (has_at (hta w14 (x13.trans x14)) (d := 2) rfl rfl)) ?_
        refine det_rx _ (fun w14 x14 K => Ty.SReport_f2) ?_
        refine det_rx rb.ents.val (fun w14 x14 K => load_cell Ty.ents_agg (has_at (htb w14 (x13.trans x14)) (d := 2) rfl rfl)) ?_
        refine thr_x (fun vs W => ∃ v1 v2, vs = [v1, v2] ∧ SEntry.Owns w13.heap.size W v2 (Rep.made L n q (s + 1 : Nat) (o + 1 : Nat)).ents) ?_ ?_
        · refine nd_x (fun v W => ∃ q, v = .slice (some ⟨q, 0, none⟩) 0 0 ∧ SEntry.Owns w13.heap.size W v []) (fun v a b hs hx => by obtain ⟨q, e1, e2⟩ := hs; exact ⟨q, e1, Own.ext e2 hx⟩) (fun w14 x14 _ => ?_) fun v1 => ?_
          · exact ents_lit0 fun x15 h15 => ⟨x15, _, rfl, Own.mono h15 x14.size⟩
          refine nd_x (fun v W => SEntry.Owns w13.heap.size W v (Rep.made L n q (s + 1 : Nat) (o + 1 : Nat)).ents) (fun v a b hs hx => Own.ext hs hx) (fun w14 x14 hq => ?_) fun v2 => ?_
          · obtain ⟨q', rfl, hq⟩ := hq
            refine ents_app0 hq (Sl.ext hra.2.2.1 (x113.trans x14)) ?_ x14.size fun v4 w4 h4 x4 => ⟨x4, h4⟩
            show ((L.ents.take q).drop (n - 1)).length < _
            simp only [List.length_drop, List.length_take]; omega
          · intro w14 x14 h14
            exact ⟨v1, v2, rfl, h14⟩
        rintro hh3 w14 x14 ⟨_, _, v1, v2, e1, h1⟩
        simp only [List.cons.injEq, and_true] at e1
        rw [e1.2]
        have x114 := x113.trans x14
        have z13 := x13.size
        have z14 := x14.size
        refine SEntry.row_apps h1 (Sl.ext hrb.2.2.1 x114) ?_ (by omega) fun v4 w15 h15 m15 => ?_
        · show ((L.ents.take q).drop (n - 1)).length + ((L.ents.take m).drop (q + 1 - 1)).length < _
          simp only [List.length_drop, List.length_take]; omega
        have xW15 : Ext W w15 := ((Mod.of_ext (x13.trans x14) : Mod (W.heap.size ≤ ·) W w14).trans (m15.mono fun k _ hk => by have := (Own.block h1 hk).1; omega)).new
        have hbefA : ra.before = Rep.carry (Rep.begin L.veh) (L.ents.take (n - 1)) := hra.2.2.2.1
        have hchA : ra.chain = Rep.carry (Rep.begin L.veh) (L.ents.take q) := hra.2.2.2.2.1.trans (Rep.made_chain2 hn1 hnq)
        have hbefB : rb.before = Rep.carry (Rep.begin L.veh) (L.ents.take q) := hrb.2.2.2.1
        have hchB : rb.chain = Rep.carry (Rep.begin L.veh) (L.ents.take m) := hrb.2.2.2.2.1.trans (Rep.made_chain2 (show 1 ≤ q + 1 by omega) (show q + 1 ≤ m by omega))
        have hbefC : rc.before = Rep.carry (Rep.begin L.veh) (L.ents.take (n - 1)) := hrc.2.2.2.1
        have hchC : rc.chain = Rep.carry (Rep.begin L.veh) (L.ents.take m) := hrc.2.2.2.2.1.trans (Rep.made_chain2 hn1 (show n ≤ m by omega))
        rw [hy, Gd_bool, if_pos rfl, SReport.g_chain (hta w15 xW15), SReport.g_before (htb w15 xW15), bin_eqv, decide_eq_true (hchA.trans hbefB.symm), Gd_bool, if_pos rfl,
          SReport.g_before (htc w15 xW15), SReport.g_before (hta w15 xW15), bin_eqv, decide_eq_true (hbefC.trans hbefA.symm), Gd_bool, if_pos rfl,
          SReport.g_chain (htc w15 xW15), SReport.g_chain (htb w15 xW15), bin_eqv, decide_eq_true (hchC.trans hchB.symm), Gd_bool, if_pos rfl, SReport.g_ents (htc w15 xW15)]
        refine callF_ret (SameEntries_ret w15 (Sl.of_owns h15) (Sl.ext hrc.2.2.1 (x1W.trans xW15))) ?_
        rintro _ w16 ⟨rfl, x16⟩
        refine hR _ _ ⟨congrArg Value.bool (decide_eq_true ?_), (x0W.trans xW15).trans x16⟩
        show (L.ents.take q).drop (n - 1) ++ (L.ents.take m).drop (q + 1 - 1) = (L.ents.take m).drop (n - 1)
        exact Rep.part_part (by omega) (by omega)
    · refine join_in fun K3 hK3 => ?_
      simp only [bin_neq, un_not, Gd_bool, decide_true, Bool.not_true, if_true]
      refine leaf1 hK3 fun h hh => ?_
      rw [hh]
      exact br_f (hK2 _ (Ext.refl _))
  · refine join_in fun K2 hK1 => ?_
    rw [SLog.g_all (has_of_at hat2)]
    refine callF_ret (usable_ret w2 (h.ext x02)) ?_
    rintro _ w3 ⟨⟨bf, rfl, hbf⟩, x3⟩
    rw [un_not]
    refine Gd_i (fun hb => ?_) fun hb => leaf1 hK1 fun h hh => by rw [hh]; exact br_t (hR _ _ ⟨rfl, x02.trans x3⟩)
    have hb := hbf (by simpa using hb)
    rw [bin_lss]
    refine leaf1 hK1 fun h hh => ?_
    rw [hh]
    exact Br_i (fun _ => hR _ _ ⟨rfl, x02.trans x3⟩) fun hb2 => hK _ ⟨x3, hb.1, hb.2, by have := dec_f hb2; omega⟩
end Go.Proofs.YtjinhojlnaplaaaDoor
