/- The laws of boxes: Others, Adds. -/
import Derived.Test.YtohmledhhgdgaaaGreatDoorEMshT
set_option linter.unusedVariables false
set_option linter.unusedSimpArgs false
namespace Go.Proofs.YtohmledhhgdgaaaGreatDoor
set_option maxRecDepth 100000
set_option maxHeartbeats 16000000
open Sh Go.RowKit
theorem b_nt {t : Bool} (h : (!t) = false) : t = true := by cases t <;> simp_all
theorem b_nf {t : Bool} (h : (!t) = !false) : t = false := by cases t <;> simp_all
theorem b_n0 {p : Prop} [Decidable p] (h : (!decide p) = false) : p := by simpa using h
theorem addV_ok_all {b : MBox} {r : Rep.Rpt} {p : Int} (hb : ∀ x ∈ b.2, RepOk x) (hr : RepOk r) : ∀ x ∈ (addV b r p).1.2, RepOk x := by
  rcases addV_cases b r p with ⟨_, h, _⟩ | ⟨_, _, e⟩ | ⟨_, _, _, e, _⟩
  · rw [h]; simp
  · rw [e]; exact hb
  · rw [e]
    intro x hx
    exact (Msh.mem_put.1 hx).elim (hb x) fun h => by rw [h]; exact hr
theorem MeshOthers_ret {s : SBox} {b : Int × List Rep.Rpt} {v : Int} (hok : ∀ r ∈ b.2, RepOk r) (hiv : I64 v) (w : World) (h : BoxIs w s b) (hT : Tab w) : Ret Tryz.prog 8 #[.agg s.cells.toArray, .int .i64 v] w (TrueQ w) := by
  refine ret_of (fun _ _ => sh_landfalllaw26_MeshOthers_ok _ _) fun R hR => ?_
  unfold sh_landfalllaw26_MeshOthers
  refine box_i fun c1 w1 x1 hat _ _ => ?_
  refine callF_ret (head26_ret w1 (hT.ext x1)) ?_
  rintro _ w2 ⟨rfl, x2⟩
  have x02 := x1.trans x2
  have hc : ∀ W, Ext w2 W → Has W c1 0 s.cells := fun W x => has_of_at ((hat.ext x2).ext x)
  refine join0 (fun W => Ext w2 W ∧ b.2.length ≤ 20 ∧ BVal b ∧ Rep.isID v = true) ?_ fun K hK => ?_
  · rintro _ W ⟨xW, h20, hV, hid⟩
    have x0W := x02.trans xW
    rw [SBox.g_veh (hc W xW), build_i (new_veh26 _)]
    refine SBox.var fun c6 w3 x3 hat3 hc6 => ?_
    have xW3 := xW.trans x3
    rw [SBox.g_reps (hc w3 xW3), (h.2.ext (x02.trans xW3)).len]
    obtain ⟨ss0, hrow0, hlen0, hall0⟩ := id h.2
    have zW := x0W.size
    have l6 := hat3.lt
    let m : Nat → List Rep.Rpt := fun k => (b.2.take k).filter fun r => decide (r.veh = v)
    refine loop1 (fun x W' => ∃ (k : Nat) (d : Hdr) (ss : List SReport), k ≤ b.2.length ∧ x = .int .i64 k ∧ Ext W W' ∧ At W' c6 (.cells (⟨s.veh, d⟩ : SBox).cells.toArray 24 (0, 0)) ∧ SReport.Owns W.heap.size W' d.val ss ∧ RepsL (fun _ => False) w ss (m k)) (fun x _ => b.2.length - (intOf x).toNat)
      ⟨0, ⟨none, 0, 0⟩, [], by omega, rfl, x3, hat3, SReport.owns_nil _ _, RepsL.nil⟩ ?_
    rintro hh _ W' hx ⟨k, d, ss, hk, rfl, xW', hat', ho, hL⟩ K2 hK2
    have x0W' := x0W.trans xW'
    rw [hx, bin_lss]
    refine Br_i (fun hb => ?_) fun hb => ?_
    · have hlt : k < b.2.length := by have := dec_t hb; omega
      refine join0 (fun V => ∃ (d' : Hdr) (ss' : List SReport), Ext W V ∧ At V c6 (.cells (⟨s.veh, d'⟩ : SBox).cells.toArray 24 (0, 0)) ∧ SReport.Owns W.heap.size V d'.val ss' ∧ RepsL (fun _ => False) w ss' (m (k + 1))) ?_ fun K3 hK3 => ?_
      · rintro _ V ⟨d', ss', y1, y2, y3, y4⟩
        rw [bin_add, i64_wrap (by omega) (by omega)]
        exact hK2 _ _ ⟨k + 1, d', ss', by omega, by simp, y1, y2, y3, y4⟩ (by simp [intOf]; omega)
      have hks : k < ss0.length := by omega
      obtain ⟨pb, po, hh1, _, hix⟩ := SReport.row_at hrow0 hks
      have hr1 : RepIs w ss0[k] b.2[k] := hall0 k _ _ (List.getElem?_eq_getElem hks) (List.getElem?_eq_getElem hlt)
      have hmk : m (k + 1) = m k ++ if b.2[k].veh = v then [b.2[k]] else [] := by
        show (b.2.take (k + 1)).filter _ = _
        rw [List.take_succ_eq_append_getElem hlt, List.filter_append]
        congr 1
        by_cases hv : b.2[k].veh = v
        · simp [hv]
        · simp [hv]
      have hml : (m k).length ≤ k := by
        show ((b.2.take k).filter _).length ≤ k
        have := List.length_filter_le (fun r : Rep.Rpt => decide (r.veh = v)) (b.2.take k)
        rw [List.length_take] at this
        omega
      rw [hix, SReport.g_all (hh1 W' x0W')]
      refine SReport.var fun b8 u1 y1 hat8 hb8 => ?_
      rw [SReport.g_veh (has_of_at hat8), hr1.1, bin_eql]
      have hat1 := hat'.ext y1
      have ho1 := Own.ext ho y1
      have z3 := x3.size
      have zW' := xW'.size
      have zy1 := y1.size
      refine Br_i (fun hv => ?_) fun hv => ?_
      · have hv := dec_t hv
        rw [if_pos hv] at hmk
        rw [SBox.g_reps (has_of_at hat1), SReport.g_all (has_of_at hat8)]
        refine SReport.row_lit [ss0[k]] rfl (by decide) (by decide) rfl fun v7 w7 x7 h7 _ => ?_
        have ho7 := Own.ext ho1 x7
        have z7 := x7.size
        have zy := xW'.size
        have zy1 := y1.size
        refine SReport.row_apps ho7 (Sl.of_owns h7) (by rw [hL.1]; simp; omega) (by omega) fun v8 w8 h8 m8 => ?_
        obtain ⟨d8, rfl⟩ := Hdr.of_sl (Sl.of_owns h8)
        have h68 := (hat1.ext x7).mod m8 (fun h => Own.off_at ho7 (hat1.ext x7) (by decide) c6 h rfl)
        refine SBox.s_reps (x := d8) h68 fun w9 m9 hat9 _ => ?_
        have x09 : Ext W w9 := ((Mod.of_ext (xW'.trans (y1.trans x7)) : Mod (W.heap.size ≤ ·) W w7).trans ((m8.mono fun q _ hq => (Own.block ho7 hq).1).trans (m9.mono fun q _ hq => by omega))).new
        refine hK3 _ ⟨d8, ss ++ [ss0[k]], x09, hat9, Own.mod h8 m9 (Own.off_at h8 h68 (by decide)), ?_⟩
        rw [hmk]
        exact hL.snoc (LiveS.of_ext hr1 (Ext.refl _) fun _ h => h.elim)
      · have hv := dec_f hv
        rw [if_neg hv, List.append_nil] at hmk
        exact hK3 _ ⟨d, ss, xW'.trans y1, hat1, ho1, by rw [hmk]; exact hL⟩
    · have hke : k = b.2.length := by have := dec_f hb; omega
      subst hke
      have hm : m b.2.length = b.2.filter fun r => decide (r.veh = v) := by show (b.2.take b.2.length).filter _ = _; rw [List.take_length]
      rw [hm] at hL
      have hown : BoxIs W' ⟨s.veh, d⟩ (b.1, b.2.filter fun r => decide (r.veh = v)) := ⟨h.1, ss, Sl.of_owns ho, hL.1, fun i t r e1 e2 => (hL.2 i t r e1 e2).is.ext x0W'⟩
      obtain ⟨p1, p2, p3⟩ := others_plain hV hid fun r hr => (hok r hr).2.1
      rw [SBox.g_all (hc W' (xW.trans xW'))]
      refine callF_ret (mKnown_ret hok hiv W' (h.ext x0W') (hT.ext x0W')) ?_
      rintro _ w4 ⟨a4, rfl, q4, x4⟩
      rw [ext3_0, ext3_1, ext3_2, SBox.g_all (has_of_at (hat'.ext x4))]
      refine callF_ret (mKnown_ret (fun r hr => hok r (List.mem_filter.1 hr).1) hiv w4 (hown.ext x4) (hT.ext (x0W'.trans x4))) ?_
      rintro _ w5 ⟨a5, rfl, q5, x5⟩
      have x05 := (x0W'.trans x4).trans x5
      rw [p2] at q5 ⊢
      rw [p1, ext3_0, ext3_1, ext3_2]
      refine gd_t ?_
      rw [bin_eql]
      refine gd_e ?_
      rw [bin_eql]
      refine gd_e ?_
      rw [u64_eql]
      refine gd_d rfl ?_
      refine callF_ret (SameEntries_ret w5 (Sl.ext q4 x5) q5) ?_
      rintro _ w6 ⟨rfl, x6⟩
      refine gd_d rfl ?_
      refine callF_ret (Follow_ret 1 w6 (Sl.ext q4 (x5.trans x6))) ?_
      rintro _ w7 ⟨rfl, x7⟩
      rw [p3]
      exact hR _ _ ⟨rfl, (x05.trans x6).trans x7⟩
  · refine join1 (fun x W => ∃ t, x = .bool t ∧ Ext w2 W ∧ (t = false → b.2.length ≤ 20 ∧ BVal b ∧ Rep.isID v = true)) ?_ fun K4 hK4 => ?_
    · rintro hh _ W hx ⟨t, rfl, xW, ht⟩
      rw [hx]
      refine Br_i (fun hb => ?_) fun hb => ?_
      · exact hR _ _ ⟨rfl, x02.trans xW⟩
      · exact hK _ ⟨xW, ht (by cases t <;> simp_all)⟩
    rw [SBox.g_reps (hc w2 (Ext.refl _))]
    refine callF_ret (mFew_ret w2 (h.2.ext x02)) ?_
    rintro _ w4 ⟨⟨t4, rfl, h4⟩, x4⟩
    rw [un_not]
    refine Gd_i (fun hb => ?_) fun hb => ?_
    · have ht4 : t4 = true := by cases t4 <;> simp_all
      rw [SBox.g_all (hc w4 x4)]
      refine callF_ret (refBoxValid_ret w4 (h.ext (x02.trans x4))) ?_
      rintro _ w5 ⟨rfl, x5⟩
      have x25 := x4.trans x5
      rw [un_not]
      refine Gd_i (fun hb => ?_) fun hb => ?_
      · have hV : BVal b := bvalid_iff.1 (by cases hq : bvalid b <;> simp_all)
        rw [bin_lss]
        refine Gd_i (fun hb => ?_) fun hb => ?_
        · have h1 := dec_f hb
          rw [bin_gtr]
          refine hK4 _ _ ⟨_, rfl, x25, fun hf => ⟨(h4 ht4).1, hV, ?_⟩⟩
          have := dec_f hf
          unfold Rep.isID
          simp; omega
        · exact hK4 _ _ ⟨true, rfl, x25, fun h => by cases h⟩
      · exact hK4 _ _ ⟨true, rfl, x25, fun h => by cases h⟩
    · exact hK4 _ _ ⟨true, rfl, x4, fun h => by cases h⟩
theorem bool_ty26 : Tryz.prog.underlying 4 = some .bool := by kernel_rfl
theorem bool_neq26 {w : World} {K : Value → World → Prop} {X : List PanicEntry → World → Prop} {ox oy : Operand} {a b : Bool} : DoV Tryz.prog (binS .neq 4 ox oy (.bool a) (.bool b)) w K X = K (.bool (a != b)) w :=
  DoV_ok (by cases a <;> cases b <;> simp [binS, eqGuard, run_neq_bool w _ _ _ bool_ty26])
theorem bool_eql26 {w : World} {K : Value → World → Prop} {X : List PanicEntry → World → Prop} {ox oy : Operand} {a b : Bool} : DoV Tryz.prog (binS .eql 4 ox oy (.bool a) (.bool b)) w K X = K (.bool (a == b)) w :=
  DoV_ok (by cases a <;> cases b <;> simp [binS, eqGuard, run_eql_bool w _ _ _ bool_ty26])
theorem MeshAdds_ret {s : SBox} {t : SReport} {b : Int × List Rep.Rpt} {r : Rep.Rpt} {p : Int} (hok : ∀ r ∈ b.2, RepOk r) (hokr : RepOk r) (w : World) (h : BoxIs w s b) (ht : RepIs w t r) (hT : Tab w) : Ret Tryz.prog 4 #[.agg s.cells.toArray, .agg t.cells.toArray, .int .i64 p] w (TrueQ w) := by
  refine ret_of (fun _ _ => sh_landfalllaw26_MeshAdds_ok _ _ _) fun R hR => ?_
  unfold sh_landfalllaw26_MeshAdds
  refine box_i fun c3 w1 x1 hat1 _ _ => ?_
  refine box_i fun c4 w2 x2 hat2 _ _ => ?_
  have x02' := x1.trans x2
  refine callF_ret (head26_ret w2 (hT.ext x02')) ?_
  rintro _ w3 ⟨rfl, x3⟩
  have x03 := x02'.trans x3
  have hc : ∀ W, Ext w3 W → Has W c3 0 s.cells := fun W x => has_of_at (((hat1.ext x2).ext x3).ext x)
  have hd : ∀ W, Ext w3 W → Has W c4 0 t.cells := fun W x => has_of_at ((hat2.ext x3).ext x)
  refine join0 (fun W => Ext w3 W ∧ b.2.length ≤ 20) ?_ fun K hK => ?_
  · rintro _ W ⟨xW, h20⟩
    have x0W := x03.trans xW
    rw [SBox.g_all (hc W xW), SReport.g_all (hd W xW)]
    refine callF_ret (mAdd_ret (B := fun _ => False) hokr hok W ⟨h.1, LiveR.of_ext h.2 x0W fun _ h => h.elim⟩ (ht.ext x0W) (fun _ h => h.elim) (hT.ext x0W)) ?_
    rintro _ w4 ⟨g, rfl, hg, x4⟩
    rw [ext3_0, ext3_1, ext3_2]
    refine SBox.var fun c8 w5 x5 hat8 _ => ?_
    have xW5 := x4.trans x5
    have x35 := xW.trans xW5
    have x05 := x03.trans x35
    have hg5 := hg.is.ext x5
    have hc8 : ∀ V, Ext w5 V → Has V c8 0 g.cells := fun V x => has_of_at (hat8.ext x)
    have hokA := addV_ok_all (p := p) hok hokr
    rw [bin_neq]
    refine Br_i (fun hb => ?_) fun hb => ?_
    · rcases addV_cases b r p with ⟨_, e1, e2⟩ | ⟨_, _, e⟩ | ⟨_, _, _, e, _⟩
      · rw [e2, un_not]
        refine gd_t (gd_t ?_)
        rw [SBox.g_all (hc8 w5 (Ext.refl _)), build_i new_nobox]
        rw [e1] at hg5
        refine callF_ret (msame_ret w5 hg5 (LiveB.zero (fun _ => False) w5).is) ?_
        rintro _ w6 ⟨rfl, x6⟩
        exact hR _ _ ⟨by rw [decide_eq_true rfl], x05.trans x6⟩
      · rw [e] at hb; simp at hb
      · rw [e] at hb; simp at hb
    have h0 : (addV b r p).2.2 = 0 := b_n0 hb
    obtain ⟨p1, p2, p3, p4, p5, p6⟩ := adds_plain b r p h0
    rw [SReport.g_all (hd w5 x35)]
    refine callF_ret (Check_ret hokr w5 (ht.ext x05) (hT.ext x05)) ?_
    rintro _ w6 ⟨rfl, x6⟩
    rw [p1, ext2_0, ext2_1]
    have x36 := x35.trans x6
    refine join0 (fun V => Ext w6 V) ?_ fun K2 hK2 => ?_
    · intro _ V xV
      have x3V := x36.trans xV
      have x0V := x03.trans x3V
      rw [SBox.g_reps (hc V x3V), (h.2.ext x0V).len]
      obtain ⟨ss0, hrow0, hlen0, hall0⟩ := id h.2
      refine loop2 (fun u x V' => ∃ k : Nat, k ≤ b.2.length ∧ u = .bool true ∧ x = .int .i64 k ∧ Ext V V') (fun _ x _ => b.2.length - (intOf x).toNat)
        ⟨0, by omega, rfl, rfl, Ext.refl _⟩ ?_
      rintro hh _ _ V' hu hx ⟨k, hk, rfl, rfl, xV'⟩ K3 hK3
      have x3V' := x3V.trans xV'
      have x0V' := x03.trans x3V'
      have x5V' := (x6.trans xV).trans xV'
      have hgV := hg5.ext x5V'
      rw [hu, hx, bin_lss]
      refine Br_i (fun hb => ?_) fun hb => ?_
      · have hlt : k < b.2.length := by have := dec_t hb; omega
        refine join1 (fun x V2 => x = .bool true ∧ Ext V V2) ?_ fun K4 hK4 => ?_
        · rintro hh2 _ V2 hx2 ⟨rfl, xV2⟩
          rw [hx2, bin_add, i64_wrap (by have := h.2.le; omega) (by have := h.2.le; omega)]
          exact hK3 _ _ _ ⟨k + 1, by omega, rfl, by simp, xV2⟩ (by simp [intOf]; omega)
        have hks : k < ss0.length := by omega
        obtain ⟨pb, po, hh1, _, hix⟩ := SReport.row_at hrow0 hks
        have hr1 : RepIs w ss0[k] b.2[k] := hall0 k _ _ (List.getElem?_eq_getElem hks) (List.getElem?_eq_getElem hlt)
        rw [hix, SReport.g_all (hh1 V' x0V')]
        refine SReport.var fun b8 u1 y1 hat9 _ => ?_
        refine gd_t ?_
        rw [SBox.g_all (hc8 u1 (x5V'.trans y1)), SReport.g_all (has_of_at hat9)]
        refine callF_ret (mhas_ret u1 (hgV.ext y1) (hr1.ext (x0V'.trans y1))) ?_
        rintro _ u2 ⟨rfl, y2⟩
        exact hK4 _ _ ⟨by rw [decide_eq_true (p4 _ (List.getElem_mem hlt))], (xV'.trans y1).trans y2⟩
      · refine join0 (fun V2 => Ext V V2 ∧ ¬ ((addV b r p).2.1 = false ∨ r ∈ b.2)) ?_ fun K4 hK4 => ?_
        · rintro _ V2 ⟨xV2, hn⟩
          have x5V2 := (x6.trans xV).trans xV2
          have x3V2 := x3V.trans xV2
          obtain ⟨q1, q2⟩ := p6 hn
          refine gd_t ?_
          rw [SBox.g_all (hc8 V2 x5V2), SReport.g_all (hd V2 x3V2)]
          refine callF_ret (mhas_ret V2 (hg5.ext x5V2) (ht.ext (x03.trans x3V2))) ?_
          rintro _ V3 ⟨rfl, xV3⟩
          refine gd_d q1 ?_
          rw [SBox.g_reps (hc8 V3 (x5V2.trans xV3)), (hg5.ext (x5V2.trans xV3)).2.len, SBox.g_reps (hc V3 (x3V2.trans xV3)), (h.2.ext (x03.trans (x3V2.trans xV3))).len, bin_add, i64_wrap (by have := h.2.le; omega) (by have := h.2.le; omega), bin_eql]
          exact hR _ _ ⟨by rw [q2]; simp, x03.trans (x3V2.trans xV3)⟩
        refine join1 (fun x V2 => ∃ t, x = .bool t ∧ Ext V V2 ∧ (t = true → (addV b r p).2.1 = false ∨ r ∈ b.2) ∧ (t = false → ¬ ((addV b r p).2.1 = false ∨ r ∈ b.2))) ?_ fun K5 hK5 => ?_
        · rintro hh2 _ V2 hx2 ⟨t2, rfl, xV2, h1, h2⟩
          rw [hx2]
          refine Br_i (fun hb => ?_) fun hb => ?_
          · have ht2 : t2 = true := hb
            have x5V2 := (x6.trans xV).trans xV2
            have x3V2 := x3V.trans xV2
            refine gd_t ?_
            rw [SBox.g_all (hc V2 x3V2), SBox.g_all (hc8 V2 x5V2)]
            have hgV2 := hg5.ext x5V2
            rw [← p5 (h1 ht2)] at hgV2
            refine callF_ret (msame_ret V2 (h.ext (x03.trans x3V2)) hgV2) ?_
            rintro _ V3 ⟨rfl, xV3⟩
            exact hR _ _ ⟨by rw [decide_eq_true rfl], x03.trans (x3V2.trans xV3)⟩
          · exact hK4 _ ⟨xV2, h2 hb⟩
        rw [un_not]
        refine Gd_i (fun hb => ?_) fun hb => ?_
        · have hi : (addV b r p).2.1 = true := b_nt hb
          rw [SBox.g_all (hc V' x3V'), SReport.g_all (hd V' x3V')]
          refine callF_ret (mhas_ret V' (h.ext x0V') (ht.ext x0V')) ?_
          rintro _ V3 ⟨rfl, xV3⟩
          exact hK5 _ _ ⟨_, rfl, xV'.trans xV3, fun hh => .inr (of_decide_eq_true hh), fun hh hor => hor.elim (fun hf => by rw [hi] at hf; cases hf) (of_decide_eq_false hh)⟩
        · have hi : (addV b r p).2.1 = false := b_nf hb
          exact hK5 _ _ ⟨true, rfl, xV', fun _ => .inl hi, fun hh => by cases hh⟩
    · refine join1 (fun x V => x = .bool false ∧ Ext w6 V) ?_ fun K5 hK5 => ?_
      · rintro hh _ V hx ⟨rfl, xV⟩
        rw [hx]
        refine Br_i (fun hb => by cases hb) fun _ => hK2 _ xV
      rw [bin_neq]
      refine gd_n ?_
      rw [bool_neq26, bne_self_eq_false]
      refine gd_f ?_
      rw [SBox.g_all (hc8 w6 x6)]
      refine callF_ret (mvalid_ret hokA w6 (hg5.ext x6) (hT.ext (x05.trans x6))) ?_
      rintro _ w7 ⟨rfl, x7⟩
      rw [un_not, p2]
      refine gd_f ?_
      rw [SBox.g_veh (hc8 w7 (x6.trans x7)), SBox.g_veh (hc w7 (x36.trans x7)), bin_neq, hg.1, p3, h.1]
      exact hK5 _ _ ⟨by rw [decide_eq_true rfl]; rfl, x7⟩
  · refine join1 (fun x W => ∃ t, x = .bool t ∧ Ext w3 W ∧ (t = false → b.2.length ≤ 20)) ?_ fun K4 hK4 => ?_
    · rintro hh _ W hx ⟨t, rfl, xW, ht⟩
      rw [hx]
      refine Br_i (fun hb => ?_) fun hb => ?_
      · exact hR _ _ ⟨rfl, x03.trans xW⟩
      · exact hK _ ⟨xW, ht hb⟩
    rw [SBox.g_reps (hc w3 (Ext.refl _))]
    refine callF_ret (mFew_ret w3 (h.2.ext x03)) ?_
    rintro _ w4 ⟨⟨t4, rfl, h4⟩, x4⟩
    rw [un_not]
    refine Gd_i (fun hb => ?_) fun hb => ?_
    · have ht4 : t4 = true := b_nt hb
      rw [SReport.g_ents (hd w4 x4), (Sl.ext ht.2.2.1 (x03.trans x4)).len Ty.SEntry_row, bin_gtr]
      exact hK4 _ _ ⟨_, rfl, x4, fun _ => (h4 ht4).1⟩
    · exact hK4 _ _ ⟨true, rfl, x4, fun h => by cases h⟩
theorem mergeV_ok_all {a b : MBox} (ha : ∀ x ∈ a.2, RepOk x) (hb : ∀ x ∈ b.2, RepOk x) : ∀ x ∈ (mergeV a b).1.2, RepOk x := by
  unfold mergeV
  split
  · simp
  · split
    · simp
    · intro x hx
      exact (Msh.mem_merge.1 hx).elim (ha x) (hb x)
theorem LiveB.wide {B B' : Nat → Prop} {w W : World} {g : SBox} {b : MBox} (h : LiveB B w g b) (x : Ext w W) (hB : ∀ k, B' k → B k ∨ w.heap.size ≤ k) : LiveB B' W g b := ⟨h.1, h.2.wide x hB⟩
theorem merge_var {B : Nat → Prop} {c d : Nat} {s t : SBox} {a b : MBox} {w : World} {K : Value → Value → World → Prop} {X0 X1 X2 X3 X4 X5 X6 : List PanicEntry → World → Prop} (hc : Has w c 0 s.cells) (hd : Has w d 0 t.cells)
    (hoka : ∀ x ∈ a.2, RepOk x) (hokb : ∀ x ∈ b.2, RepOk x) (ha : LiveB B w s a) (hb : LiveB B w t b) (hB : ∀ k, B k → k < w.heap.size) (hT : Tab w)
    (hk : ∀ c' g W, Ext w W → At W c' (.cells g.cells.toArray 24 (0, 0)) → w.heap.size ≤ c' → (∀ B' : Nat → Prop, (∀ k, B' k → B k ∨ w.heap.size ≤ k) → (∀ k, B k → B' k) → (∀ k, B' k → ¬ B k → k = c') → LiveB B' W g (mergeV a b).1) → K (.pointer (some ⟨c', 0, none⟩)) (.int .i64 (mergeV a b).2) W) :
    DoV Tryz.prog (Instr.loadAt 24 (.pointer (some ⟨c, 0, none⟩))) w (fun t1 w1 => DoV Tryz.prog (Instr.loadAt 24 (.pointer (some ⟨d, 0, none⟩))) w1 (fun t2 w2 => CallF Tryz.prog 16 #[t1, t2] w2 (fun t3 w3 =>
      DoV Tryz.prog (Instr.extract t3 0) w3 (fun t4 w4 => DoV Tryz.prog (Instr.extract t3 1) w4 (fun t5 w5 => DoV Tryz.prog (Instr.alloc 24 true (.tuple #[])) w5 (fun t6 w6 => DoU Tryz.prog (Instr.storeAt 24 t6 t4) w6 (fun _ w7 => K t6 t5 w7) X0) X1) X2) X3) X4) X5) X6 := by
  rw [SBox.g_all hc, SBox.g_all hd]
  refine callF_ret (mMerge_ret hoka hokb w ha hb hB hT) ?_
  rintro _ w1 ⟨g, rfl, hg, x1⟩
  rw [ext2_0, ext2_1]
  refine SBox.var fun c' w2 x2 hat hcc => ?_
  refine hk c' g w2 (x1.trans x2) hat (Nat.le_trans x1.size hcc) fun B' h1 h2 h3 => ?_
  refine hg.wide x2 fun k hk' => ?_
  by_cases hBk : B k
  · exact .inl hBk
  · exact .inr (by rw [h3 k hk' hBk]; exact hcc)
theorem MeshMerges_ret {s t u : SBox} {a b c : MBox} (hoka : ∀ r ∈ a.2, RepOk r) (hokb : ∀ r ∈ b.2, RepOk r) (hokc : ∀ r ∈ c.2, RepOk r) (w : World) (ha : BoxIs w s a) (hb : BoxIs w t b) (hc : BoxIs w u c) (hT : Tab w) :
    Ret Tryz.prog 6 #[.agg s.cells.toArray, .agg t.cells.toArray, .agg u.cells.toArray] w (TrueQ w) := by
  refine ret_of (fun _ _ => sh_landfalllaw26_MeshMerges_ok _ _ _) fun R hR => ?_
  unfold sh_landfalllaw26_MeshMerges
  refine box_i fun c3 w1 x1 hat3 _ _ => ?_
  refine box_i fun c4 w2 x2 hat4 _ _ => ?_
  refine box_i fun c5 w3 x3 hat5 _ _ => ?_
  have x03' := (x1.trans x2).trans x3
  refine callF_ret (head26_ret w3 (hT.ext x03')) ?_
  rintro _ w4 ⟨rfl, x4⟩
  have x04 := x03'.trans x4
  have h3 := ((hat3.ext x2).ext x3).ext x4
  have h4 := (hat4.ext x3).ext x4
  have h5 := hat5.ext x4
  have z4 := x04.size
  refine join0 (fun W => Ext w4 W ∧ (a.2.length ≤ 20 ∧ b.2.length ≤ 20 ∧ c.2.length ≤ 20) ∧ BVal a ∧ BVal b ∧ BVal c) ?_ fun K hK => ?_
  · rintro _ W ⟨xW, ⟨la, lb, lc⟩, va, vb, vc⟩
    have x0W := x04.trans xW
    have zW := x0W.size
    have l3 := (h3.ext xW).lt
    have l4 := (h4.ext xW).lt
    have l5 := (h5.ext xW).lt
    obtain ⟨⟨e1, e2, e3, e4, e5, e6, e7⟩, exy, eown, elr, epart, eval_⟩ := merges_plain va vb vc la lb lc
    have F : ∀ {g : SBox} {q : MBox}, BoxIs w g q → ∀ V, Ext w V → ∀ B : Nat → Prop, (∀ k, B k → w.heap.size ≤ k) → LiveB B V g q := fun h V xV B hB => ⟨h.1, LiveR.of_ext h.2 xV hB⟩
    have F0 : ∀ {g : SBox} {q : MBox}, BoxIs w g q → ∀ V, Ext w V → LiveB (fun _ => False) V g q := fun h V xV => F h V xV _ fun _ h => h.elim
    refine merge_var (has_of_at (h3.ext xW)) (has_of_at (h4.ext xW)) hoka hokb (F0 ha W x0W) (F0 hb W x0W) (fun _ h => h.elim) (hT.ext x0W) fun c8 g8 w5 x5 hat8 b8 L8 => ?_
    have x05 := x0W.trans x5
    have l8 := hat8.lt
    refine merge_var (has_of_at ((h4.ext xW).ext x5)) (has_of_at ((h3.ext xW).ext x5)) hokb hoka (F0 hb w5 x05) (F0 ha w5 x05) (fun _ h => h.elim) (hT.ext x05) fun c10 g10 w6 x6 hat10 b10 L10 => ?_
    have x06 := x05.trans x6
    have z5 := x05.size
    have z6 := x06.size
    have l10 := hat10.lt
    let B : Nat → Prop := (· = c10)
    have hB0 : ∀ k, B k → w.heap.size ≤ k := fun k hk => by have hk : k = c10 := hk; omega
    have live8 : LiveB B w6 g8 (mergeV a b).1 := (L8 (fun _ => False) (fun _ h => h.elim) (fun _ h => h) (fun _ h => h.elim)).wide x6 fun k hk => .inr (by have hk : k = c10 := hk; omega)
    have live10 : LiveB B w6 g10 (mergeV b a).1 := L10 B (fun k hk => .inr (by have hk : k = c10 := hk; omega)) (fun _ h => h.elim) (fun k hk _ => hk)
    have hBs : ∀ V, Ext w6 V → ∀ k, B k → k < V.heap.size := fun V xV k hk => by have hk : k = c10 := hk; have := xV.size; omega
    have at3 : ∀ V, Ext w6 V → At V c3 _ := fun V xV => ((h3.ext xW).ext (x5.trans x6)).ext xV
    have at4 : ∀ V, Ext w6 V → At V c4 _ := fun V xV => ((h4.ext xW).ext (x5.trans x6)).ext xV
    have at5 : ∀ V, Ext w6 V → At V c5 _ := fun V xV => ((h5.ext xW).ext (x5.trans x6)).ext xV
    have at8 : ∀ V, Ext w6 V → At V c8 _ := fun V xV => (hat8.ext x6).ext xV
    have tab : ∀ V, Ext w6 V → Tab V := fun V xV => hT.ext (x06.trans xV)
    have A : ∀ {g : SBox} {q : MBox}, BoxIs w g q → ∀ V, Ext w6 V → LiveB B V g q := fun h V xV => F h V (x06.trans xV) B hB0
    have ok8 := mergeV_ok_all hoka hokb
    have ok14 := mergeV_ok_all hokb hokc
    refine merge_var (B := B) (has_of_at (at3 w6 (Ext.refl _))) (has_of_at (at3 w6 (Ext.refl _))) hoka hoka (A ha w6 (Ext.refl _)) (A ha w6 (Ext.refl _)) (hBs w6 (Ext.refl _)) (tab w6 (Ext.refl _)) fun c12 g12 w7 x7 hat12 b12 L12 => ?_
    have live12 := L12 B (fun _ h => .inl h) (fun _ h => h) (fun _ h hn => absurd h hn)
    have l12 := hat12.lt
    refine merge_var (B := B) (has_of_at (at4 w7 x7)) (has_of_at (at5 w7 x7)) hokb hokc (A hb w7 x7) (A hc w7 x7) (hBs w7 x7) (tab w7 x7) fun c14 g14 w8 x8 hat14 b14 L14 => ?_
    have live14 := L14 B (fun _ h => .inl h) (fun _ h => h) (fun _ h hn => absurd h hn)
    have l14 := hat14.lt
    have x68 := x7.trans x8
    refine merge_var (B := B) (has_of_at (at8 w8 x68)) (has_of_at (at5 w8 x68)) ok8 hokc (live8.ext x68) (A hc w8 x68) (hBs w8 x68) (tab w8 x68) fun c16 g16 w9 x9 hat16 b16 L16 => ?_
    have live16 := L16 B (fun _ h => .inl h) (fun _ h => h) (fun _ h hn => absurd h hn)
    have l16 := hat16.lt
    have x69 := x68.trans x9
    refine merge_var (B := B) (has_of_at (at3 w9 x69)) (has_of_at (hat14.ext x9)) hoka ok14 (A ha w9 x69) (live14.ext x9) (hBs w9 x69) (tab w9 x69) fun c18 g18 w10 x10 hat18 b18 L18 => ?_
    have live18 := L18 B (fun _ h => .inl h) (fun _ h => h) (fun _ h hn => absurd h hn)
    have l18 := hat18.lt
    have x610 := x69.trans x10
    refine merge_var (B := B) (has_of_at (at8 w10 x610)) (has_of_at (at4 w10 x610)) ok8 hokb (live8.ext x610) (A hb w10 x610) (hBs w10 x610) (tab w10 x610) fun c20 g20 w11 x11 hat20 b20 L20 => ?_
    have live20 := L20 B (fun _ h => .inl h) (fun _ h => h) (fun _ h hn => absurd h hn)
    have l20 := hat20.lt
    have x611 := x610.trans x11
    have z7 := x7.size
    have z8 := x8.size
    have z9 := x9.size
    have z10 := x10.size
    have z11 := x11.size
    rw [SBox.g_veh (has_of_at (at3 w11 x611))]
    refine SBox.s_veh (x := s.veh) (hat10.ext x611) fun w12 m12 hat12' s12 => ?_
    have q3 := (at3 w11 x611).mod m12 (fun h => by omega)
    have q8 := (at8 w11 x611).mod m12 (fun h => by omega)
    have q12 := (hat12.ext (((x8.trans x9).trans x10).trans x11)).mod m12 (fun h => by omega)
    have q16 := (hat16.ext (x10.trans x11)).mod m12 (fun h => by omega)
    have q18 := (hat18.ext x11).mod m12 (fun h => by omega)
    have q20 := hat20.mod m12 (fun h => by omega)
    have v3 := ((A ha w11 x611).mod m12).is
    have v8 := ((live8.ext x611).mod m12).is
    have v10 := ((live10.ext x611).mod m12).is
    have v12 := ((live12.ext (((x8.trans x9).trans x10).trans x11)).mod m12).is
    have v16 := ((live16.ext (x10.trans x11)).mod m12).is
    have v18 := ((live18.ext x11).mod m12).is
    have v20 := (live20.mod m12).is
    have vy : BoxIs w12 ⟨s.veh, g10.reps⟩ (mergeV a b).1 := by
      rw [exy]; exact ⟨ha.1, v10.2⟩
    have x012 : Ext w w12 := ext_step (x06.trans x611) m12 (by omega)
    rw [eown] at v12
    rw [← elr] at v18
    rw [epart] at v20
    refine join1 (fun x V => x = .bool true ∧ V = w12) ?_ fun K5 hK5 => ?_
    · rintro hh _ V hx ⟨rfl, rfl⟩
      rw [hx]
      refine gd_t ?_
      rw [SBox.g_all (has_of_at q8), SBox.g_all (has_of_at hat12')]
      refine callF_ret (msame_ret V v8 vy) ?_
      rintro _ u1 ⟨rfl, y1⟩
      refine gd_d rfl ?_
      rw [SBox.g_all (has_of_at (q12.ext y1)), SBox.g_all (has_of_at (q3.ext y1))]
      refine callF_ret (msame_ret u1 (v12.ext y1) (v3.ext y1)) ?_
      rintro _ u2 ⟨rfl, y2⟩
      have y02 := y1.trans y2
      refine gd_d rfl ?_
      rw [SBox.g_all (has_of_at (q16.ext y02)), SBox.g_all (has_of_at (q18.ext y02))]
      refine callF_ret (msame_ret u2 (v16.ext y02) (v18.ext y02)) ?_
      rintro _ u3 ⟨rfl, y3⟩
      have y03 := y02.trans y3
      refine gd_d rfl ?_
      rw [SBox.g_all (has_of_at (q20.ext y03)), SBox.g_all (has_of_at (q8.ext y03))]
      refine callF_ret (msame_ret u3 (v20.ext y03) (v8.ext y03)) ?_
      rintro _ u4 ⟨rfl, y4⟩
      have y04 := y03.trans y4
      refine gd_d rfl ?_
      rw [SBox.g_all (has_of_at (q8.ext y04))]
      refine callF_ret (mvalid_ret ok8 u4 (v8.ext y04) (hT.ext (x012.trans y04))) ?_
      rintro _ u5 ⟨rfl, y5⟩
      rw [eval_]
      exact hR _ _ ⟨rfl, (x012.trans y04).trans y5⟩
    rw [e1, e2, e3, e4, e5, e6, e7]
    refine gd_t ?_
    rw [bin_eql]
    refine gd_e ?_
    rw [bin_eql]
    refine gd_e ?_
    rw [bin_eql]
    refine gd_e ?_
    rw [bin_eql]
    refine gd_e ?_
    rw [bin_eql]
    refine gd_e ?_
    rw [bin_eql]
    refine gd_e ?_
    rw [bin_eql]
    exact hK5 _ _ ⟨by rw [decide_eq_true rfl], rfl⟩
  · refine join1 (fun x W => ∃ t, x = .bool t ∧ Ext w4 W ∧ (t = false → (a.2.length ≤ 20 ∧ b.2.length ≤ 20 ∧ c.2.length ≤ 20) ∧ BVal a ∧ BVal b ∧ BVal c)) ?_ fun K4 hK4 => ?_
    · rintro hh _ W hx ⟨t, rfl, xW, ht⟩
      rw [hx]
      refine Br_i (fun hb => ?_) fun hb => ?_
      · exact hR _ _ ⟨rfl, x04.trans xW⟩
      · exact hK _ ⟨xW, ht hb⟩
    have bad : ∀ W, Ext w4 W → K4 [.bool true] W := fun W xW => hK4 _ _ ⟨true, rfl, xW, fun h => by cases h⟩
    rw [SBox.g_reps (has_of_at h3)]
    refine callF_ret (mFew_ret w4 (ha.2.ext x04)) ?_
    rintro _ w5 ⟨⟨t5, rfl, f5⟩, x5⟩
    rw [un_not]
    refine Gd_i (fun b5 => ?_) fun _ => bad _ x5
    rw [SBox.g_reps (has_of_at (h4.ext x5))]
    refine callF_ret (mFew_ret w5 (hb.2.ext (x04.trans x5))) ?_
    rintro _ w6 ⟨⟨t6, rfl, f6⟩, x6⟩
    have x46 := x5.trans x6
    rw [un_not]
    refine Gd_i (fun b6 => ?_) fun _ => bad _ x46
    rw [SBox.g_reps (has_of_at (h5.ext x46))]
    refine callF_ret (mFew_ret w6 (hc.2.ext (x04.trans x46))) ?_
    rintro _ w7 ⟨⟨t7, rfl, f7⟩, x7⟩
    have x47 := x46.trans x7
    rw [un_not]
    refine Gd_i (fun b7 => ?_) fun _ => bad _ x47
    rw [SBox.g_all (has_of_at (h3.ext x47))]
    refine callF_ret (refBoxValid_ret w7 (ha.ext (x04.trans x47))) ?_
    rintro _ w8 ⟨rfl, x8⟩
    have x48 := x47.trans x8
    rw [un_not]
    refine Gd_i (fun b8 => ?_) fun _ => bad _ x48
    rw [SBox.g_all (has_of_at (h4.ext x48))]
    refine callF_ret (refBoxValid_ret w8 (hb.ext (x04.trans x48))) ?_
    rintro _ w9 ⟨rfl, x9⟩
    have x49 := x48.trans x9
    rw [un_not]
    refine Gd_i (fun b9 => ?_) fun _ => bad _ x49
    rw [SBox.g_all (has_of_at (h5.ext x49))]
    refine callF_ret (refBoxValid_ret w9 (hc.ext (x04.trans x49))) ?_
    rintro _ w10 ⟨rfl, x10⟩
    rw [un_not]
    exact hK4 _ _ ⟨_, rfl, x49.trans x10, fun hf => ⟨⟨(f5 (b_nt b5)).1, (f6 (b_nt b6)).1, (f7 (b_nt b7)).1⟩, bvalid_iff.1 (b_nt b8), bvalid_iff.1 (b_nt b9), bvalid_iff.1 (b_nt hf)⟩⟩
theorem MeshMatchesReference_ret {s t : SBox} {u : SReport} {a b : MBox} {r : Rep.Rpt} {p v : Int} (hoka : ∀ r ∈ a.2, RepOk r) (hokb : ∀ r ∈ b.2, RepOk r) (hokr : RepOk r) (hiv : I64 v) (w : World) (ha : BoxIs w s a) (hb : BoxIs w t b) (hr : RepIs w u r) (hT : Tab w) :
    Ret Tryz.prog 3 #[.agg s.cells.toArray, .agg t.cells.toArray, .agg u.cells.toArray, .int .i64 p, .int .i64 v] w (TrueQ w) := by
  refine ret_of (fun _ _ => sh_landfalllaw26_MeshMatchesReference_ok _ _ _ _ _) fun R hR => ?_
  unfold sh_landfalllaw26_MeshMatchesReference
  refine box_i fun c3 w1 x1 hat3 _ _ => ?_
  refine box_i fun c4 w2 x2 hat4 _ _ => ?_
  refine box_i fun c5 w3 x3 hat5 _ _ => ?_
  have x03' := (x1.trans x2).trans x3
  refine callF_ret (head26_ret w3 (hT.ext x03')) ?_
  rintro _ w4 ⟨rfl, x4⟩
  have x04 := x03'.trans x4
  have h3 := ((hat3.ext x2).ext x3).ext x4
  have h4 := (hat4.ext x3).ext x4
  have h5 := hat5.ext x4
  have z4 := x04.size
  refine join0 (fun W => Ext w4 W) ?_ fun K hK => ?_
  · intro _ W xW
    have x0W := x04.trans xW
    have zW := x0W.size
    have l3 := (h3.ext xW).lt
    have l4 := (h4.ext xW).lt
    have l5 := (h5.ext xW).lt
    have F : ∀ {g : SBox} {q : MBox}, BoxIs w g q → ∀ V, Ext w V → ∀ B : Nat → Prop, (∀ k, B k → w.heap.size ≤ k) → LiveB B V g q := fun h V xV B hB => ⟨h.1, LiveR.of_ext h.2 xV hB⟩
    have F0 : ∀ {g : SBox} {q : MBox}, BoxIs w g q → ∀ V, Ext w V → LiveB (fun _ => False) V g q := fun h V xV => F h V xV _ fun _ h => h.elim
    rw [SBox.g_all (has_of_at (h3.ext xW)), SReport.g_all (has_of_at (h5.ext xW))]
    refine callF_ret (mAdd_ret (B := fun _ => False) hokr hoka W (F0 ha W x0W) (hr.ext x0W) (fun _ h => h.elim) (hT.ext x0W)) ?_
    rintro _ w5 ⟨g1, rfl, L1, x5⟩
    rw [ext3_0, ext3_1, ext3_2]
    refine SBox.var fun c12 w6 x6 hat12 b12 => ?_
    have xW6 := x5.trans x6
    have x06 := x0W.trans xW6
    rw [SBox.g_all (has_of_at ((h3.ext xW).ext xW6)), SReport.g_all (has_of_at ((h5.ext xW).ext xW6))]
    refine callF_ret (refAdd_ret26 (B := fun _ => False) (p := p) hokr w6 (F0 ha w6 x06) (LiveS.of_ext hr x06 fun _ h => h.elim) (fun _ h => h.elim)) ?_
    rintro _ w7 ⟨g2, rfl, L2, x7⟩
    rw [ext3_0, ext3_1, ext3_2]
    refine SBox.var fun c15 w8 x8 hat15 b15 => ?_
    have x68 := x7.trans x8
    have x08 := x06.trans x68
    have l12 := (hat12.ext x68).lt
    have l12' := hat12.lt
    have l15 := hat15.lt
    have z5 := x5.size
    have z6 := x06.size
    have z7 := x7.size
    have at3 := (h3.ext xW).ext (xW6.trans x68)
    have at4 := (h4.ext xW).ext (xW6.trans x68)
    have at12 := hat12.ext x68
    have v1 : BoxIs w8 g1 (addV a r p).1 := L1.is.ext (x6.trans x68)
    have v2 : BoxIs w8 g2 (addV a r p).1 := L2.is.ext x8
    refine join1 (fun x V => x = .bool true ∧ Ext w8 V) ?_ fun K5 hK5 => ?_
    · rintro hh _ V hx ⟨rfl, xV⟩
      have x0V := x08.trans xV
      have zV := xV.size
      let B : Nat → Prop := fun k => k = c12 ∨ k = c15
      have hB0 : ∀ k, B k → w.heap.size ≤ k := fun k hk => by
        rcases hk with rfl | rfl <;> omega
      rw [SBox.g_all (has_of_at (at3.ext xV)), SBox.g_all (has_of_at (at4.ext xV))]
      refine callF_ret (mMerge_ret (B := B) hoka hokb V (F ha V x0V B hB0) (F hb V x0V B hB0) (fun k hk => by rcases hk with rfl | rfl <;> omega) (hT.ext x0V)) ?_
      rintro _ u1 ⟨g3, rfl, L3, y1⟩
      rw [ext2_0, ext2_1]
      refine SBox.set (r := g1) ((at12.ext xV).ext y1) fun u2 m2 hat12' s2 => ?_
      have zu1 := y1.size
      have x0u2 : Ext w u2 := ext_step (x0V.trans y1) m2 (by omega)
      have at3' := ((at3.ext xV).ext y1).mod m2 (fun h => by omega)
      have at4' := ((at4.ext xV).ext y1).mod m2 (fun h => by omega)
      have at15' := ((hat15.ext xV).ext y1).mod m2 (fun h => by omega)
      rw [SBox.g_all (has_of_at at3'), SBox.g_all (has_of_at at4')]
      refine callF_ret (refMerge_ret26 (B := B) u2 (F ha u2 x0u2 B hB0) (F hb u2 x0u2 B hB0) (fun k hk => by rcases hk with rfl | rfl <;> omega)) ?_
      rintro _ u3 ⟨g4, rfl, L4, y3⟩
      rw [ext2_0, ext2_1]
      refine SBox.set (r := g2) (at15'.ext y3) fun u4 m4 hat15' s4 => ?_
      have zu3 := y3.size
      have x0u4 : Ext w u4 := ext_step (x0u2.trans y3) m4 (by omega)
      have at3'' := (at3'.ext y3).mod m4 (fun h => by omega)
      have at12'' := (hat12'.ext y3).mod m4 (fun h => by omega)
      have v3 := (((L3.mod (m2.mono fun k _ h => .inl h)).ext y3).mod (m4.mono fun k _ h => .inr h)).is
      have v4 := (L4.mod (m4.mono fun k _ h => .inr h)).is
      refine join1 (fun x V2 => x = .bool true ∧ Ext u4 V2) ?_ fun K6 hK6 => ?_
      · rintro hh2 _ V2 hx2 ⟨rfl, xV2⟩
        have x0V2 := x0u4.trans xV2
        rw [SBox.g_all (has_of_at (at3''.ext xV2))]
        refine callF_ret (mKnown_ret hoka hiv V2 (ha.ext x0V2) (hT.ext x0V2)) ?_
        rintro _ u5 ⟨a5, rfl, q5, y5⟩
        have x0u5 := x0V2.trans y5
        rw [ext3_0, ext3_1, ext3_2, SBox.g_all (has_of_at ((at3''.ext xV2).ext y5))]
        refine callF_ret (refKnown_ret hoka hiv u5 (ha.ext x0u5)) ?_
        rintro _ u6 ⟨a6, rfl, q6, y6⟩
        have x0u6 := x0u5.trans y6
        rw [ext3_0, ext3_1, ext3_2, hx2]
        refine gd_t ?_
        refine callF_ret (SameEntries_ret u6 (Sl.ext q5 y6) q6) ?_
        rintro _ u7 ⟨rfl, y7⟩
        refine gd_d rfl ?_
        rw [u64_eql]
        refine gd_d rfl ?_
        rw [bin_eql]
        exact hR _ _ ⟨by rw [decide_eq_true rfl], x0u6.trans y7⟩
      rw [hx]
      refine gd_t ?_
      rw [SBox.g_all (has_of_at at12''), SBox.g_all (has_of_at hat15')]
      refine callF_ret (msame_ret u4 v3 v4) ?_
      rintro _ u5 ⟨rfl, y5⟩
      refine gd_d rfl ?_
      rw [bin_eql]
      exact hK6 _ _ ⟨by rw [decide_eq_true rfl], y5⟩
    refine draw_ext fun w9 x9 => ?_
    have x09 := x08.trans x9
    refine gd_t ?_
    refine det_read _ (fun V xV K => SBox.g_all (has_of_at ((at3.ext x9).ext xV))) ?_
    refine det_ret _ (fun V xV => mvalid_ret hoka V (ha.ext (x09.trans xV)) (hT.ext (x09.trans xV))) ?_
    refine det_read _ (fun V xV K => SBox.g_all (has_of_at ((at3.ext x9).ext xV))) ?_
    refine det_ret _ (fun V xV => refBoxValid_ret V (ha.ext (x09.trans xV))) ?_
    refine det_read _ (fun V xV K => bool_eql26) ?_
    rw [beq_self_eq_true]
    refine gd_t ?_
    refine det_read _ (fun V xV K => SBox.g_all (has_of_at ((at12.ext x9).ext xV))) ?_
    refine det_read _ (fun V xV K => SBox.g_all (has_of_at ((hat15.ext x9).ext xV))) ?_
    refine det_ret _ (fun V xV => msame_ret V ((v1.ext x9).ext xV) ((v2.ext x9).ext xV)) ?_
    refine gd_d rfl ?_
    refine det_read _ (fun V xV K => bool_eql26) ?_
    rw [beq_self_eq_true]
    refine gd_t ?_
    intro V xV _
    rw [bin_eql]
    exact hK5 _ _ ⟨by rw [decide_eq_true rfl], x9.trans xV⟩
  · refine join1 (fun x W => ∃ t, x = .bool t ∧ Ext w4 W) ?_ fun K4 hK4 => ?_
    · rintro hh _ W hx ⟨t, rfl, xW⟩
      rw [hx]
      exact Br_i (fun hb => hR _ _ ⟨rfl, x04.trans xW⟩) fun hb => hK _ xW
    have bad : ∀ W, Ext w4 W → K4 [.bool true] W := fun W xW => hK4 _ _ ⟨true, rfl, xW⟩
    rw [SBox.g_reps (has_of_at h3)]
    refine callF_ret (mFew_ret w4 (ha.2.ext x04)) ?_
    rintro _ w5 ⟨⟨t5, rfl, f5⟩, x5⟩
    rw [un_not]
    refine Gd_i (fun b5 => ?_) fun _ => bad _ x5
    rw [SBox.g_reps (has_of_at (h4.ext x5))]
    refine callF_ret (mFew_ret w5 (hb.2.ext (x04.trans x5))) ?_
    rintro _ w6 ⟨⟨t6, rfl, f6⟩, x6⟩
    have x46 := x5.trans x6
    rw [un_not]
    refine Gd_i (fun b6 => ?_) fun _ => bad _ x46
    rw [SReport.g_ents (has_of_at (h5.ext x46)), (Sl.ext hr.2.2.1 (x04.trans x46)).len Ty.SEntry_row, bin_gtr]
    exact hK4 _ _ ⟨_, rfl, x46⟩
end Go.Proofs.YtohmledhhgdgaaaGreatDoor
