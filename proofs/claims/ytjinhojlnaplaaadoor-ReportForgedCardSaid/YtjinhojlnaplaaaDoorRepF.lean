/- The laws of reports: Forged. -/
import Derived.Test.YtjinhojlnaplaaaDoorRepL
namespace Go.Proofs.YtjinhojlnaplaaaDoor
set_option maxRecDepth 100000
set_option maxHeartbeats 8000000
open Sh Go.RowKit
theorem bool_neq {P : Program} {w : World} {K : Value → World → Prop} {X : List PanicEntry → World → Prop} {t : TypeId} (ht : P.underlying t = some .bool) {ox oy : Operand} {a b : Bool} : DoV P (binS .neq t ox oy (.bool a) (.bool b)) w K X = K (.bool (a != b)) w :=
  DoV_ok (by cases a <;> cases b <;> simp [binS, eqGuard, run_neq_bool w t _ _ ht])
attribute [local irreducible] Dig.next Dig.sum Rep.carry Rep.begin in
theorem ReportForged_ret {g : SLog} {L : Rep.Lg} {c ch b : Int} {s o : Nat} {d : BitVec 64} (hok : LogOk L) (hc : 0 ≤ c ∧ c < 256) (hs : s < 65536) (ho : o < 65536) (hch : 0 ≤ ch ∧ ch < 256) (hb : 0 ≤ b ∧ b < 256) (w : World) (h : LogIs w g L) (ht : Tab w) :
    Ret Tryd.prog 11 #[.agg g.cells.toArray, .int .u8 c, .int .u16 s, .int .u16 o, u64v d, .int .u8 ch, .int .u8 b] w (TrueQ w) := by
  refine ret_of (fun _ _ => sh_landfalllaw24_ReportForged_ok _ _ _ _ _ _ _) fun R hR => ?_
  unfold sh_landfalllaw24_ReportForged
  have hq : Sig.Q = 1073741789 := rfl
  refine box_i fun b1 w1 x1 hat1 _ _ => ?_
  refine callF_ret (head24_ret w1 (ht.ext x1)) ?_
  rintro _ w2 ⟨rfl, x2⟩
  have x02 := x1.trans x2
  have hat2 : At w2 b1 _ := At.ext hat1 x2
  rw [SLog.g_ents (has_of_at hat2), SEntry.row_len (Sl.ext h.2.2 x02)]
  refine join0 (fun W => Ext w2 W ∧ L.valid = true ∧ L.ents.length ≤ 40 ∧ 0 < L.ents.length) ?_ fun K hK => ?_
  · rintro _ w3 ⟨x3, hv, hlen, h0⟩
    have x03 := x02.trans x3
    obtain ⟨N, hN⟩ : ∃ N, N = L.ents.length := ⟨_, rfl⟩
    rw [← hN]
    obtain ⟨n, hn⟩ : ∃ n, n = 1 + c.toNat % N := ⟨_, rfl⟩
    have hcm := Nat.mod_lt c.toNat (show 0 < N by omega)
    have en : (1 : Int) + ((c.toNat % N : Nat) : Int) = (n : Int) := by omega
    have hn1 : 1 ≤ n := by omega
    have hnm : n ≤ N := by omega
    have hmN : N ≤ L.ents.length := by omega
    have hI : I64 (n : Int) := by unfold I64; omega
    refine callF_ret (secrets_ret hs ho w3) ?_
    rintro _ w4 ⟨rfl, x4⟩
    have hs' : 1 ≤ s + 1 ∧ s + 1 < Sig.Q := by omega
    have ho' : 1 ≤ o + 1 ∧ o + 1 < Sig.Q := by omega
    rw [ext4_0, ext4_1, ext4_2, ext4_3]
    have x04 := x03.trans x4
    have hmk := Rep.makeV_ok hv hn1 hnm hmN hs' ho'
    obtain ⟨M, hM⟩ : ∃ M, M = Rep.made L n N (s + 1 : Nat) (o + 1 : Nat) := ⟨_, rfl⟩
    rw [← hM] at hmk
    have hMok : RepOk M := by rw [hM]; exact Rep.made_repok hok hI (by omega) hs' ho'
    have hMr : Rep.okR M = true := by rw [hM]; exact Rep.made_okR hv hn1 hnm hmN
    have hMs : M.sig = Sig.sigOf (s + 1) (o + 1) (Rep.msg M) := by rw [hM]; exact Rep.made_sig hs' ho'
    have hMc : M.chain = Rep.carry M.before M.ents := by rw [hM]; rfl
    have hMl : M.ents.length = N - (n - 1) := by
      rw [hM]; show ((L.ents.take N).drop (n - 1)).length = _
      simp only [List.length_drop, List.length_take]; omega
    refine drawRX fun w5 x5 hs5 => ?_
    have x05 := x04.trans x5
    have hg5 : ∀ W', Ext w5 W' → Has W' b1 0 g.cells := fun W' x' => has_of_at ((((hat2.ext x3).ext x4).ext x5).ext x')
    refine det_rx (.agg g.cells.toArray) (fun w6 x6 K => SLog.g_all (hg5 w6 x6)) ?_
    refine det_rx (.int .i64 c) (fun w6 x6 K => by rw [conv_int Ty.u8 Ty.int, i64_wrap (by omega) (by omega)]) ?_
    refine det_rx (.int .i64 ((c.toNat % N : Nat) : Int)) (fun w6 x6 K => by rw [bin_rem (by omega), tmod_nat hc.1]) ?_
    refine det_rx (.int .i64 (n : Int)) (fun w6 x6 K => by rw [bin_add, en, i64_wrap (by omega) (by omega)]) ?_
    refine thr_x (fun vs W => ∃ r : SReport, ∃ v1 v2, ∃ bh, vs = [v1, v2, .agg r.cells.toArray, .int .i64 0] ∧ RepIs W r M ∧ SEntry.Owns bh W r.ents.val M.ents) ?_ ?_
    · refine nd_x (fun v W => ∃ r : SReport, ∃ bh, v = .tuple #[.agg r.cells.toArray, .int .i64 0] ∧ RepIs W r M ∧ SEntry.Owns bh W r.ents.val M.ents) (fun v a b hs hx => by obtain ⟨r, bh, e1, e2, e3⟩ := hs; exact ⟨r, bh, e1, e2.ext hx, Own.ext e3 hx⟩) (fun w6 x6 _ => ?_) fun v1 => ?_
      · refine callF_ret (Make_ret hok hI (by omega) w6 (h.ext (x05.trans x6)) (ht.ext (x05.trans x6))) ?_
        rintro _ w7 ⟨r, rfl, hr, x7, bh, hown⟩
        rw [hmk] at hr hown ⊢
        exact ⟨x7, r, bh, rfl, hr, hown⟩
      refine nd_x (fun v W => ∃ r : SReport, ∃ bh, v = .tuple #[.agg r.cells.toArray, .int .i64 0] ∧ RepIs W r M ∧ SEntry.Owns bh W r.ents.val M.ents) (fun v a b hs hx => by obtain ⟨r, bh, e1, e2, e3⟩ := hs; exact ⟨r, bh, e1, e2.ext hx, Own.ext e3 hx⟩) (fun w6 x6 hh => ⟨Ext.refl _, hh⟩) fun v2 => ?_
      refine nd_x (fun v W => ∃ r : SReport, ∃ bh, v2 = .tuple #[.agg r.cells.toArray, .int .i64 0] ∧ v = .agg r.cells.toArray ∧ RepIs W r M ∧ SEntry.Owns bh W r.ents.val M.ents) (fun v a b hs hx => by obtain ⟨r, bh, e1, e0, e2, e3⟩ := hs; exact ⟨r, bh, e1, e0, e2.ext hx, Own.ext e3 hx⟩) (fun w6 x6 hh => ?_) fun v3 => ?_
      · obtain ⟨r, bh, rfl, h2⟩ := hh
        rw [ext2_0]
        exact ⟨Ext.refl _, r, bh, rfl, rfl, h2⟩
      refine nd_x (fun v W => ∃ r : SReport, ∃ bh, v3 = .agg r.cells.toArray ∧ v = .int .i64 0 ∧ RepIs W r M ∧ SEntry.Owns bh W r.ents.val M.ents) (fun v a b hs hx => by obtain ⟨r, bh, e1, e0, e2, e3⟩ := hs; exact ⟨r, bh, e1, e0, e2.ext hx, Own.ext e3 hx⟩) (fun w6 x6 hh => ?_) fun v4 => ?_
      · obtain ⟨r, bh, rfl, rfl, h2⟩ := hh
        rw [ext2_1]
        exact ⟨Ext.refl _, r, bh, rfl, rfl, h2⟩
      · rintro w6 x6 ⟨r, bh, rfl, rfl, h2⟩
        exact ⟨r, v1, v2, bh, rfl, h2⟩
    refine thr_x (fun vs W => ∃ k, vs = [.pointer (some ⟨k, 0, none⟩)] ∧ At W k (.cells SReport.zero.cells.toArray 51 (0, 0)) ∧ w5.heap.size ≤ k) ?_ ?_
    · refine nd_x (fun v W => ∃ k, v = .pointer (some ⟨k, 0, none⟩) ∧ At W k (.cells SReport.zero.cells.toArray 51 (0, 0)) ∧ w5.heap.size ≤ k) (fun v a b hs hx => by obtain ⟨k, e1, e2, e3⟩ := hs; exact ⟨k, e1, e2.ext hx, e3⟩) (fun w6 x6 _ => ?_) fun v1 => ?_
      · refine alloc_i Ty.SReport_zero fun k w7 x7 hatk hk _ => ?_
        exact ⟨x7, k, rfl, hatk, by have := x6.size; omega⟩
      · rintro w6 x6 ⟨k, rfl, h5, h6⟩
        exact ⟨k, rfl, h5, h6⟩
    rintro hh w6 x6 ⟨_, ⟨_, r, v1, v2, bh, e1, hr, hown⟩, k, e2, hatk, hk⟩
    simp only [List.cons.injEq, and_true] at e1 e2
    rw [e1.2.2.1, e1.2.2.2, e2]
    refine SReport.set (r := SReport.zero) (s := r) hatk fun w7 m7 hatk7 _ => ?_
    have hown7 := Own.mod hown m7 (Own.off_at hown hatk (by decide))
    have hr7 : RepIs w7 r M := ⟨hr.1, hr.2.1, Sl.of_owns hown7, hr.2.2.2⟩
    have x57 : Ext w5 w7 := ext_step x6 m7 hk
    have x07 := x05.trans x57
    have hgr : ∀ W', Ext w7 W' → Has W' k 0 r.cells := fun W' x' => has_of_at (hatk7.ext x')
    refine join0 (fun W => W = w7) ?_ fun K2 hK2 => ?_
    · rintro _ W hW
      subst W
      -- another chain
      rw [SReport.g_all (hgr w7 (Ext.refl _))]
      refine SReport.var fun b23 w8 x8 hat8 hb8 => ?_
      refine SReport.s_chain hat8 fun w9 m9 hat9 _ => ?_
      have x79 : Ext w7 w9 := ext_step x8 m9 hb8
      rw [SReport.g_all (has_of_at hat9)]
      have hr9 := hr7.ext x79
      have hoth : RepIs w9 { r with chain := d } { M with chain := d } := ⟨hr9.1, hr9.2.1, hr9.2.2.1, hr9.2.2.2.1, rfl, hr9.2.2.2.2.2⟩
      refine callF_ret (Check_ret (r := { M with chain := d }) hMok w9 hoth (ht.ext (x07.trans x79))) ?_
      rintro _ w10 ⟨rfl, x10⟩
      have x710 := x79.trans x10
      have hco := Rep.check_other (r := { M with chain := d }) (s := s + 1) (o := o + 1) (m := Rep.msg M) hMr hMs
      have hc1 : (Rep.checkV { M with chain := d } ((Sig.pw 4 (s + 1) : Nat) : Int)).1 = decide (d = r.chain) := by
        rw [hr.2.2.2.2.1]
        by_cases hd : d = M.chain
        · subst hd
          have := Rep.check_of (r := M) (s := s + 1) (o := o + 1) hMr hMs
          rw [show ({ M with chain := M.chain } : Rep.Rpt) = M from rfl, this, decide_eq_true hMc.symm, decide_eq_true rfl]
        · rw [hco.2 (by show Rep.carry M.before M.ents ≠ d; rw [← hMc]; exact fun e => hd e.symm), decide_eq_false hd]
      rw [hco.1, hc1, ext2_0, ext2_1]
      refine join0 (fun W => W = w10) ?_ fun K4 hK4 => ?_
      · rintro _ W hW
        subst W
        -- another digit
        have hlast : M.ents.length - 1 < M.ents.length := by omega
        obtain ⟨last, hla⟩ : ∃ e, e = M.ents[M.ents.length - 1] := ⟨_, rfl⟩
        have hfol : Rep.follows M.ents M.first = true := by
          have := hMr
          simp only [Rep.okR, Bool.and_eq_true] at this
          exact this.2.2
        have hfm : Rep.formed last = true := by rw [hla]; exact Rep.fol_formed hfol hlast
        obtain ⟨kk, hkk⟩ : ∃ kk, kk = ch.toNat % 12 := ⟨_, rfl⟩
        have hk12 : kk < 12 := by omega
        have x010 := x07.trans x710
        have hr10 := hr7.ext x710
        obtain ⟨bb, oo, hhe, _, hix⟩ := SEntry.row_at hr10.2.2.1 hlast
        have el1 : (M.ents.length : Int) - 1 = ((M.ents.length - 1 : Nat) : Int) := by omega
        rw [SReport.g_ents (hgr w10 x710), SReport.g_ents (hgr w10 x710), SEntry.row_len hr10.2.2.1, bin_sub, i64_wrap (by omega) (by omega), el1, hix, SEntry.g_all (hhe w10 (Ext.refl _)), ← hla]
        refine SEntry.var fun b26 w11 x11 hat11 _ => ?_
        have x711 := x710.trans x11
        rw [SReport.g_all (hgr w11 x711)]
        refine SReport.var fun b27 w12 x12 hat12 hb12 => ?_
        refine draw_ext fun w13 x13 => ?_
        have x1013 := (x11.trans x12).trans x13
        have x713 := x710.trans x1013
        refine det_read _ (fun w14 x14 K => Ty.SReport_f2) ?_
        refine det_read r.ents.val (fun w14 x14 K => load_cell Ty.ents_agg (has_at (hgr w14 (x713.trans x14)) (d := 2) rfl rfl)) ?_
        refine det_read (.agg last.cells.toArray) (fun w14 x14 K => SEntry.g_all (has_of_at (((hat11.ext x12).ext x13).ext x14))) ?_
        refine det_ret _ (fun w14 x14 => changed_ret hfm hch hb w14) ?_
        intro w14 x14 _
        rw [← hkk]
        obtain ⟨e', he'⟩ : ∃ e', e' = Rep.changed last kk b := ⟨_, rfl⟩
        have heo : e'.Ok := by rw [he']; exact Rep.changed_ok hfm hk12 b
        rw [← he']
        have x1014 := x1013.trans x14
        have x714 := x710.trans x1014
        refine callF_ret (with_ret w14 (Sl.ext hr10.2.2.1 x1014) (by omega) (by omega)) ?_
        rintro vw w15 ⟨h15, x15⟩
        obtain ⟨df, rfl⟩ := Hdr.of_sl (Sl.of_owns h15)
        have hat15 := ((hat12.ext x13).ext x14).ext x15
        refine SReport.s_ents hat15 fun w16 m16 hat16 _ => ?_
        have h16 := Own.mod h15 m16 (Own.off_at h15 hat15 (by decide))
        have x1116 : Ext w11 w16 := ext_step (((x12.trans x13).trans x14).trans x15) m16 hb12
        have x1016 := x11.trans x1116
        have x716 := x710.trans x1016
        have x016 := x07.trans x716
        have hr16 := hr7.ext x716
        obtain ⟨F, hF⟩ : ∃ F : Rep.Rpt, F = { M with ents := M.ents.take (M.ents.length - 1) ++ [e'] } := ⟨_, rfl⟩
        have hFl : F.ents.length = M.ents.length := by
          rw [hF]; show (M.ents.take (M.ents.length - 1) ++ [e']).length = _
          rw [List.length_append, List.length_take]; simp; omega
        have hfor : RepIs w16 { r with ents := df } F := by rw [hF]; exact ⟨hr16.1, hr16.2.1, Sl.of_owns h16, hr16.2.2.2⟩
        have hFok : RepOk F := by
          rw [hF]
          refine ⟨hMok.1, hMok.2.1, fun e he => ?_, hMok.2.2.2.1, ?_⟩
          · have he : e ∈ M.ents.take (M.ents.length - 1) ++ [e'] := he
            rw [List.mem_append, List.mem_singleton] at he
            rcases he with he | rfl
            · exact hMok.2.2.1 e (List.mem_of_mem_take he)
            · exact heo
          · rw [hF] at hFl
            show (M.ents.take (M.ents.length - 1) ++ [e']).length ≤ _
            have := hMok.2.2.2.2
            have h2 : (M.ents.take (M.ents.length - 1) ++ [e']).length = M.ents.length := hFl
            omega
        rw [SReport.g_all (has_of_at hat16)]
        refine callF_ret (Check_ret hFok w16 hfor (ht.ext x016)) ?_
        rintro _ w17 ⟨rfl, x17⟩
        rw [ext2_0, ext2_1, SReport.g_all (has_of_at (hat16.ext x17))]
        refine callF_ret (refFormed_ret w17 (hfor.ext x17)) ?_
        rintro _ w18 ⟨rfl, x18⟩
        rw [un_not]
        have x018 := (x016.trans x17).trans x18
        refine Br_i (fun hb1 => ?_) fun hb1 => ?_
        · have hb1 : Rep.okR F = false := by simpa using hb1
          rw [Rep.check_bad hb1, Gd_bool, if_pos rfl, bin_eql, decide_eq_true rfl, Gd_bool, if_pos rfl, un_not]
          exact hR _ _ ⟨rfl, x018⟩
        · have hb1 : Rep.okR F = true := by simpa using hb1
          have hFm : Rep.msg F = Rep.msg M := by
            have : Rep.msg F = [F.veh, F.first, (F.ents.length : Int), Rep.hi F.before, Rep.lo F.before, Rep.hi F.chain, Rep.lo F.chain] := rfl
            rw [this, hFl, hF]; rfl
          have hFs : F.sig = Sig.sigOf (s + 1) (o + 1) (Rep.msg F) := by rw [hFm, ← hMs, hF]
          have hck := Rep.check_of (r := F) (s := s + 1) (o := o + 1) hb1 hFs
          have etk : M.ents = M.ents.take (M.ents.length - 1) ++ [last] := by
            have := List.take_succ_eq_append_getElem hlast
            rw [show M.ents.length - 1 + 1 = M.ents.length by omega, List.take_of_length_le (Nat.le_refl _)] at this
            rw [hla]; exact this
          have key : decide (Rep.carry F.before F.ents = F.chain) = decide (e' = last) := by
            have hd := Rep.changed_digits last hk12 b (Rep.carry M.before (M.ents.take (M.ents.length - 1)))
            rw [← he'] at hd
            rw [decide_eq_decide, ← hd]
            have e3 : F.chain = Dig.next (Rep.carry M.before (M.ents.take (M.ents.length - 1))) (Rep.eints last) := by
              rw [← Rep.carry_one, ← Rep.carry_append, ← etk, ← hMc, hF]
            have e4 : Rep.carry F.before F.ents = Dig.next (Rep.carry M.before (M.ents.take (M.ents.length - 1))) (Rep.eints e') := by
              rw [← Rep.carry_one, ← Rep.carry_append, hF]
            rw [e3, e4]
          rw [key] at hck
          rw [hck]
          refine draw_ext fun w19 x19 => ?_
          have x1619 := (x17.trans x18).trans x19
          have h19 := Own.ext h16 x1619
          have hlf : (M.ents.take (M.ents.length - 1)).length = M.ents.length - 1 := by simp
          obtain ⟨b2, o2, hh2, _, hix2⟩ := SEntry.row_at (Sl.of_owns h19) (show M.ents.length - 1 < (M.ents.take (M.ents.length - 1) ++ [e']).length by rw [List.length_append, hlf]; simp)
          have eg : (M.ents.take (M.ents.length - 1) ++ [e'])[M.ents.length - 1]'(by rw [List.length_append, hlf]; simp) = e' := by simp
          have hr19 := hr16.ext x1619
          rw [Gd_bool, if_pos rfl]
          refine det_read _ (fun w20 x20 K => bin_eql) ?_
          rw [decide_eq_true rfl, Gd_bool, if_pos rfl]
          refine det_read _ (fun w20 x20 K => Ty.SReport_f2) ?_
          refine det_read df.val (fun w20 x20 K => load_cell Ty.ents_agg (has_at (has_of_at (hat16.ext (x1619.trans x20))) (d := 2) rfl rfl)) ?_
          refine det_read _ (fun w20 x20 K => Ty.SReport_f2) ?_
          refine det_read r.ents.val (fun w20 x20 K => load_cell Ty.ents_agg (has_at (hgr w20 ((x716.trans x1619).trans x20)) (d := 2) rfl rfl)) ?_
          refine det_read _ (fun w20 x20 K => SEntry.row_len (Sl.ext hr19.2.2.1 x20)) ?_
          refine det_read (.int .i64 ((M.ents.length - 1 : Nat) : Int)) (fun w20 x20 K => by rw [bin_sub, i64_wrap (by omega) (by omega), el1]) ?_
          refine det_read _ (fun w20 x20 K => hix2 w20 K _) ?_
          refine det_read (.agg e'.cells.toArray) (fun w20 x20 K => by rw [← eg]; exact SEntry.g_all (hh2 w20 x20)) ?_
          refine det_read (.agg last.cells.toArray) (fun w20 x20 K => SEntry.g_all (has_of_at (hat11.ext ((x1116.trans x1619).trans x20)))) ?_
          refine det_read _ (fun w20 x20 K => SEntry.eql) ?_
          intro w20 x20 _
          rw [bool_eql Ty.bool, beq_self_eq_true]
          exact hR _ _ ⟨rfl, (x018.trans x19).trans x20⟩
      · refine join_in fun K5 hK5 => ?_
        rw [bin_neq, decide_eq_true rfl]
        refine Gd_i (fun _ => ?_) fun hh => by cases hh
        rw [SReport.g_chain (hgr w10 x710), bin_eqv, bool_neq Ty.bool, bne_self_eq_false]
        refine leaf1 hK5 fun h hh => ?_
        rw [hh]
        exact br_f (hK4 _ rfl)
    · refine join_in fun K3 hK3 => ?_
      rw [un_not]
      refine Gd_i (fun _ => ?_) fun hh => by cases hh
      rw [bin_neq, decide_eq_true rfl]
      refine Gd_i (fun _ => ?_) fun hh => by cases hh
      rw [SReport.g_ents (hgr w7 (Ext.refl _)), SEntry.row_len hr7.2.2.1, bin_eql, decide_eq_false (show ¬ ((M.ents.length : Nat) : Int) = 0 by omega)]
      refine leaf1 hK3 fun h hh => ?_
      rw [hh]
      exact br_f (hK2 _ rfl)
  · refine join_in fun K2 hK1 => ?_
    rw [SLog.g_all (has_of_at hat2)]
    refine callF_ret (usable_ret w2 (h.ext x02)) ?_
    rintro _ w3 ⟨⟨bf, rfl, hbf⟩, x3⟩
    rw [un_not]
    refine Gd_i (fun hb => ?_) fun hb => leaf1 hK1 fun h hh => by rw [hh]; exact br_t (hR _ _ ⟨rfl, x02.trans x3⟩)
    have hb := hbf (by simpa using hb)
    rw [bin_eql]
    refine leaf1 hK1 fun h hh => ?_
    rw [hh]
    exact Br_i (fun _ => hR _ _ ⟨rfl, x02.trans x3⟩) fun hb2 => hK _ ⟨x3, hb.1, hb.2, by have := dec_f hb2; omega⟩
end Go.Proofs.YtjinhojlnaplaaaDoor
