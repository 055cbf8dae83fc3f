/- The walks of the laws MatchesReference, Writes and Follows of the journal. -/
import Derived.Test.YtahplhcijlgelaaJouW9
namespace Go.Proofs.Ytahplhcijlgelaa
set_option maxRecDepth 100000
set_option maxHeartbeats 2000000
open Sh Go.RowKit
theorem JournalMatchesReference_ret {v0 v2 : Value} {b : List UInt8} {r : SRecord} {l : List SRecord} (hbl : b.length ≤ 1000000000000000) (hr : r.Ok) (w : World) (h0 : Sl w 1 v0 b.length (bv b)) (h2 : SRecord.Row w v2 l) :
    Ret Try.prog 3 #[v0, .agg r.cells.toArray, v2] w (TrueQ w) := by
  refine ret_of (fun _ _ => sh_landfalllaw40_JournalMatchesReference_ok _ _ _) fun R hR => ?_
  unfold sh_landfalllaw40_JournalMatchesReference
  refine box_rec fun g w1 x1 hat _ => ?_
  refine callF_ret (head_ret w1) ?_
  rintro _ w2 ⟨rfl, x2⟩
  have x12 := x1.trans x2
  have h0 := h0.ext x12
  have h2 := Sl.ext h2 x12
  have hat := hat.ext x2
  refine join0 (fun w' => w' = w2) ?_ fun K hK => ?_
  · rintro _ w' rfl
    rw [SRecord.g_all (has_of_at hat)]
    refine callF_ret (jPut_ret hr hbl w' h0) ?_
    intro q w3 hq
    obtain ⟨p, rfl, hp, x3⟩ := hq.use
    rw [ext2_0, ext2_1, SRecord.g_all (has_of_at (hat.ext x3))]
    refine callF_ret (jrefPut_ret hr hbl w3 (h0.ext x3)) ?_
    intro q w4 hq
    obtain ⟨p', rfl, hp', x4⟩ := hq.use
    rw [ext2_0, ext2_1]
    have x34 := x3.trans x4
    refine join1 (fun x w' => x = .bool true ∧ w' = w4) ?_ fun K hK => ?_
    · rintro _ x w5 hx ⟨rfl, hw⟩
      subst w5
      refine callF_ret (jLoad_ret w4 (h0.ext x34)) ?_
      rintro _ w5 ⟨m, rfl, hm, x5⟩
      rw [ext3_0, ext3_1, ext3_2]
      refine callF_ret (jrefLoad_ret w5 (h0.ext (x34.trans x5))) ?_
      rintro _ w6 ⟨m', rfl, hm', x6⟩
      rw [ext3_0, ext3_1, ext3_2, hx]
      have x36 := (x34.trans x5).trans x6
      refine join1 (fun x w' => x = .bool true ∧ Ext w6 w') ?_ fun K hK => ?_
      · rintro _ x w7 hx ⟨rfl, x7⟩
        have x37 := x36.trans x7
        refine callF_ret (jEntries_ret w7 (Sl.ext h2 x37)) ?_
        rintro _ w8 ⟨e, rfl, he, x8⟩
        rw [ext2_0, ext2_1]
        refine callF_ret (refEntries_ret w8 (Sl.ext h2 (x37.trans x8))) ?_
        rintro _ w9 ⟨e', rfl, he', x9⟩
        rw [ext2_0, ext2_1, hx]
        refine gd_t ?_
        refine callF_ret (sameEnts_ret w9 (Sl.ext he x9) he') ?_
        rintro _ w10 ⟨rfl, x10⟩
        rw [dec_same]
        refine gd_t ?_
        rw [bin_eql, dec_same]
        exact hR _ _ ⟨rfl, x12.trans (((x37.trans x8).trans x9).trans x10)⟩
      · refine gd_t ?_
        refine callF_ret (sameRecs_ret w6 (Sl.ext hm x6) hm') ?_
        rintro _ w7 ⟨rfl, x7⟩
        rw [dec_same]
        refine gd_t ?_
        rw [bin_eql, dec_same]
        refine gd_t ?_
        rw [bin_eql, dec_same]
        exact hK _ _ ⟨rfl, x7⟩
    · refine gd_t ?_
      refine callF_same (SameBytes_ret w4 (hp.ext x4) hp') ?_
      rw [dec_same]
      refine gd_t ?_
      rw [bin_eql, dec_same]
      exact hK _ _ ⟨rfl, rfl⟩
  · refine join1 (fun c w' => ∃ q, c = .bool q ∧ w' = w2) ?_ fun K' hK' => ?_
    · rintro _ _ w' hb ⟨q, rfl, rfl⟩
      rw [hb]
      exact Br_i (fun _ => hR _ _ ⟨rfl, x12⟩) fun hq => hK _ rfl
    · have hend : ∀ q : Bool, K' [.bool q] w2 := fun q => hK' _ _ ⟨q, rfl, rfl⟩
      have hsec : CallB Try.prog .len #[30] 3 #[false] #[v2] w2 (fun a w => DoV Try.prog (binS .gtr 3 (Operand.tmp 29) (Operand.const (.int .i64 40)) a (.int .i64 40)) w (fun a w => Gd a true (CallB Try.prog .len #[30] 3 #[false] #[v2] w (fun a w => DoV Try.prog (binS .leq 3 (Operand.tmp 33) (Operand.const (.int .i64 4000)) a (.int .i64 4000)) w (fun a w => K' [a] w) (Pan R)) (Pan R)) (K' [.bool false] w)) (Pan R)) (Pan R) := by
        rw [SRecord.row_len h2, bin_gtr]
        refine Gd_i (fun _ => ?_) fun _ => hend _
        rw [SRecord.row_len h2, bin_leq]
        exact hend _
      rw [h0.len Ty.bytes, bin_gtr]
      refine Gd_i (fun _ => ?_) fun _ => ?_
      · rw [h0.len Ty.bytes, bin_leq]
        refine Gd_i (fun _ => ?_) fun _ => ?_
        · rw [SRecord.row_len h2, bin_gtr]
          refine Gd_i (fun _ => ?_) fun _ => hend _
          rw [SRecord.row_len h2, bin_leq]
          exact hend _
        · exact hend _
      · rw [SRecord.row_len h2, bin_gtr]
        refine Gd_i (fun _ => ?_) fun _ => hend _
        rw [SRecord.row_len h2, bin_leq]
        exact hend _
theorem jends_at {w : World} {ve : Value} {fs : List SRecord} (h : Sl w 1 ve (jends fs).length (iv (jends fs))) {k : Nat} (hk : k < fs.length) : ∃ b o, b < w.heap.size ∧ w.cell? ⟨b, o, none⟩ = some (.int .i64 (Jou.bytes (fs.take (k + 1))).length) ∧
    ∀ (w1 : World) (K : Value → World → Prop) (X : List PanicEntry → World → Prop), DoV Try.prog (Instr.indexAt 45 ve (.int .i64 k)) w1 K X = K (.pointer (some ⟨b, o, none⟩)) w1 := by
  obtain ⟨i, hi, hz, hs, hby⟩ := Ty.info_parts Ty.int_info
  obtain ⟨b, o, hc, hb, hix⟩ := h.index Ty.ints hi hs (k := .i64) (j := k) (by rw [jends_length]; exact hk) (by decide)
  refine ⟨b, o + k * 1, hb, ?_, hix⟩
  rw [Nat.mul_one]
  refine hc k _ ?_
  rw [iv, List.getElem?_map, jends, List.getElem?_map, List.getElem?_range hk]; rfl
theorem jbytes_mono (fs : List SRecord) {j k : Nat} (h : j ≤ k) : (Jou.bytes (fs.take j)).length ≤ (Jou.bytes (fs.take k)).length := by
  have e : fs.take k = fs.take j ++ (fs.take k).drop j := by
    have := List.take_append_drop j (fs.take k)
    rw [List.take_take, Nat.min_eq_left h] at this
    exact this.symm
  rw [e, Jou.bytes_append, List.length_append]; omega
theorem kept_all {l : List SRecord} (hok : ∀ r ∈ l, r.Ok) : (∀ r ∈ l.filter Jou.form, Jou.form r = true) ∧ (∀ r ∈ l.filter Jou.form, r.Ok) ∧ (l.filter Jou.form).length ≤ l.length :=
  ⟨fun r hr => (List.mem_filter.1 hr).2, fun r hr => hok r (List.mem_filter.1 hr).1, List.length_filter_le _ _⟩
theorem JournalWrites_ret {v0 : Value} {l : List SRecord} {cut : Int} (hcut : 0 ≤ cut ∧ cut < 65536) (hok : ∀ r ∈ l, r.Ok) (w : World) (h0 : SRecord.Row w v0 l) :
    Ret Try.prog 4 #[v0, .int .u16 cut] w (TrueQ w) := by
  refine ret_of (fun _ _ => sh_landfalllaw40_JournalWrites_ok _ _) fun R hR => ?_
  unfold sh_landfalllaw40_JournalWrites
  refine callF_ret (head_ret w) ?_
  rintro _ w1 ⟨rfl, x1⟩
  have h0 := Sl.ext h0 x1
  rw [SRecord.row_len h0, bin_gtr]
  refine Br_i (fun _ => hR _ _ ⟨rfl, x1⟩) fun hb => ?_
  have hl20 : l.length ≤ 20 := by have := dec_f hb; omega
  refine callF_ret (written_ret hok (by omega) w1 h0) ?_
  rintro _ w2 ⟨vb, ve, vr, rfl, hbs, hes, hrs, x2⟩
  obtain ⟨hff, hfo, hfl⟩ := kept_all hok
  generalize l.filter Jou.form = fs at *
  have hal := jbytes_few fs hfo
  rw [ext4_0, ext4_1, ext4_2, ext4_3]
  refine callF_ret (jLoad_ret w2 hbs) ?_
  rintro _ w3 ⟨m, rfl, hm, x3⟩
  rw [loadV_of (by omega), Jou.load_all hff hfo] at hm ⊢
  rw [ext3_0, ext3_1, ext3_2]
  have hbs3 := hbs.ext x3
  have hes3 := hes.ext x3
  have hrs3 : SRecord.Row w3 vr fs := Sl.ext hrs x3
  refine join0 (fun w' => Ext w3 w') ?_ fun K hK => ?_
  · rintro _ w4 x4
    obtain ⟨at_, hat⟩ : ∃ a, a = cut.toNat % ((Jou.bytes fs).length + 1) := ⟨_, rfl⟩
    have hatl : at_ < (Jou.bytes fs).length + 1 := by rw [hat]; exact Nat.mod_lt _ (by omega)
    rw [conv_int Ty.u16 Ty.int, i64_wrap (by omega) (by omega), (hbs3.ext x4).len Ty.bytes, bin_add, i64_wrap (by omega) (by omega), bin_rem (by omega), show ((Jou.bytes fs).length : Int) + 1 = (((Jou.bytes fs).length + 1 : Nat) : Int) by omega, tmod_nat hcut.1, ← hat, (hes3.ext x4).len Ty.ints, jends_length]
    refine loop3 (fun x y z w5 => ∃ k j : Nat, k ≤ fs.length ∧ z = .int .i64 k ∧ j ≤ k ∧ x = .int .i64 j ∧ y = .int .i64 (Jou.bytes (fs.take j)).length ∧ (Jou.bytes (fs.take j)).length ≤ at_ ∧ (j < k → at_ < (Jou.bytes (fs.take (j + 1))).length) ∧ Ext w3 w5) (fun _ _ z _ => fs.length - (intOf z).toNat)
      ⟨0, 0, by omega, rfl, by omega, rfl, rfl, by simp [Jou.bytes_nil], by omega, x4⟩ ?_
    rintro h _ _ _ w5 hx hy hz ⟨k, j, hk, rfl, hj, rfl, rfl, hja, hjn, x5⟩ K hK
    rw [hx, hy, hz, bin_lss]
    refine Br_i (fun hb => ?_) fun hb => ?_
    · have hlt : k < fs.length := by have := dec_t hb; omega
      refine join2 (fun x y w6 => ∃ j : Nat, j ≤ k + 1 ∧ x = .int .i64 j ∧ y = .int .i64 (Jou.bytes (fs.take j)).length ∧ (Jou.bytes (fs.take j)).length ≤ at_ ∧ (j < k + 1 → at_ < (Jou.bytes (fs.take (j + 1))).length) ∧ Ext w3 w6) ?_ fun K' hK' => ?_
      · rintro h2 _ _ w6 hx hy ⟨j, q1, rfl, rfl, q2, q3, x6⟩
        rw [hx, hy, bin_add, i64_wrap (by omega) (by omega)]
        exact hK _ _ _ _ ⟨k + 1, j, by omega, by simp, q1, rfl, rfl, q2, q3, x6⟩ (by simp [intOf]; omega)
      · obtain ⟨g, o, hg, hc, hix⟩ := jends_at (hes3.ext x5) hlt
        rw [hix, load_cell Ty.int_agg hc, bin_leq]
        refine Br_i (fun hb2 => ?_) fun hb2 => ?_
        · have hle := dec_t hb2
          have hjk : j = k := by
            refine Classical.byContradiction fun hne => ?_
            have := hjn (by omega)
            have := jbytes_mono fs (show j + 1 ≤ k + 1 by omega)
            omega
          subst hjk
          rw [bin_add, i64_wrap (by omega) (by omega)]
          exact hK' _ _ _ ⟨j + 1, by omega, by simp, rfl, by omega, by omega, x5⟩
        · have hgt := dec_f hb2
          refine hK' _ _ _ ⟨j, by omega, rfl, rfl, hja, fun _ => ?_, x5⟩
          by_cases hjk : j < k
          · exact hjn hjk
          · have : j = k := by omega
            subst this; omega
    · have hge := dec_f hb
      have hkl : k = fs.length := by omega
      subst hkl
      refine up_bytes (hbs3.ext x5) (by omega) fun v6 h6 => ?_
      refine callF_ret (jLoad_ret w5 h6) ?_
      rintro _ w7 ⟨m', rfl, hm', x7⟩
      have hlt : ((Jou.bytes fs).take at_).length ≤ 200000 := by rw [List.length_take]; omega
      rw [loadV_of hlt, Jou.load_torn hff hfo hja hjn] at hm' ⊢
      rw [ext3_0, ext3_1, ext3_2]
      refine gd_t ?_
      rw [bin_eql, dec_same]
      refine gd_t ?_
      rw [bin_eql, dec_same]
      refine gd_t ?_
      have xx := x5.trans x7
      refine SRecord.row_upto (Sl.ext hrs3 xx) hj fun v8 h8 => ?_
      refine callF_ret (sameRecs_ret w7 hm' h8) ?_
      rintro _ w9 ⟨rfl, x9⟩
      exact hR _ _ ⟨by simp, x1.trans (x2.trans (x3.trans (xx.trans x9)))⟩
  · refine join1 (fun b w4 => b = .bool false ∧ Ext w3 w4) ?_ fun K' hK' => ?_
    · rintro _ _ w4 hbb ⟨rfl, x4⟩
      rw [hbb]
      exact br_f (hK _ x4)
    · rw [un_not]
      refine gd_f ?_
      rw [bin_neq]
      refine gd_f ?_
      refine callF_ret (sameRecs_ret w3 hm hrs3) ?_
      rintro _ w4 ⟨rfl, x4⟩
      rw [un_not]
      refine Gd_i (fun _ => ?_) fun h => by simp at h
      rw [(hbs3.ext x4).len Ty.bytes, bin_neq]
      exact hK' _ _ ⟨by simp, x4⟩
theorem JournalFollows_ret {v0 v1 : Value} {l : List SRecord} {b : List UInt8} (hok : ∀ r ∈ l, r.Ok) (w : World) (h0 : SRecord.Row w v0 l) (h1 : Sl w 1 v1 b.length (bv b)) :
    Ret Try.prog 5 #[v0, v1] w (TrueQ w) := by
  refine ret_of (fun _ _ => sh_landfalllaw40_JournalFollows_ok _ _) fun R hR => ?_
  unfold sh_landfalllaw40_JournalFollows
  refine callF_ret (head_ret w) ?_
  rintro _ w1 ⟨rfl, x1⟩
  have h0 := Sl.ext h0 x1
  have h1 := h1.ext x1
  refine join0 (fun w' => w' = w1 ∧ l.length ≤ 20 ∧ b.length ≤ 1000) ?_ fun K hK => ?_
  · rintro _ w' ⟨rfl, hl20, hbl⟩
    refine callF_ret (written_ret hok (by omega) w' h0) ?_
    rintro _ w2 ⟨vb, ve, vr, rfl, hbs, hes, hrs, x2⟩
    obtain ⟨hff, hfo, hfl⟩ := kept_all hok
    generalize l.filter Jou.form = fs at *
    have hal := jbytes_few fs hfo
    rw [ext4_0, ext4_1, ext4_2, ext4_3]
    refine lit_nobytes fun v3 w3 x3 h3 _ => ?_
    have z3 := x3.size
    refine app_bytes h3 (hbs.ext x3) (by simp; omega) z3 fun v4 w4 h4 m4 => ?_
    have x4 : Ext w2 w4 := ((Mod.of_ext x3 : Mod (w2.heap.size ≤ ·) w2 w3).trans (m4.mono fun k _ h => (Own.block h3 h).1)).new
    have z4 := x4.size
    refine app_bytes h4 (h1.ext (x2.trans x4)) (by simp; omega) z4 fun v5 w5 h5 m5 => ?_
    have x5 : Ext w2 w5 := ((Mod.of_ext x4 : Mod (w2.heap.size ≤ ·) w2 w4).trans (m5.mono fun k _ h => (Own.block h4 h).1)).new
    rw [List.nil_append] at h5
    refine callF_ret (jLoad_ret w5 (Sl.of_owns h5)) ?_
    rintro _ w6 ⟨m, rfl, hm, x6⟩
    rw [loadV_of (by rw [List.length_append]; omega), Jou.load_bytes hff hfo] at hm ⊢
    rw [ext3_0, ext3_1, ext3_2]
    have x26 := x5.trans x6
    refine callF_ret (jLoad_ret w6 (h1.ext (x2.trans x26))) ?_
    rintro _ w7 ⟨n, rfl, hn, x7⟩
    rw [loadV_of (by omega)] at hn ⊢
    rw [ext3_0, ext3_1, ext3_2]
    have x27 := x26.trans x7
    have hsz : (Jou.load b).2 ≤ b.length ∧ (Jou.load b).1.length ≤ b.length := by
      obtain ⟨hc1, hc2⟩ := Cod.frames_count b
      obtain ⟨q1, q2, q3, q4⟩ := Jou.loadL_size (Cod.frames b).1 fun l hl => ((Cod.frames_inv b).2 l hl).1
      have hc3 := Cod.frames_len b
      refine ⟨?_, by have : (Jou.load b).1.length ≤ (Cod.frames b).1.length := q2; omega⟩
      have e1 : (Jou.load b).2 = (Jou.bytes (Jou.load b).1).length := q4
      rw [e1]
      have e2 : Jou.bytes (Jou.load b).1 = Cod.all ((Cod.frames b).1.take (Jou.load b).1.length) := by
        show Cod.all ((Jou.load b).1.map Jou.ints) = _
        rw [show (Jou.load b).1.map Jou.ints = _ from q3]; rfl
      rw [e2]
      have e3 : Cod.all (Cod.frames b).1 = Cod.all ((Cod.frames b).1.take (Jou.load b).1.length) ++ Cod.all ((Cod.frames b).1.drop (Jou.load b).1.length) := by rw [← Cod.all_append, List.take_append_drop]
      have := congrArg List.length e3
      rw [List.length_append] at this
      omega
    refine gd_t ?_
    refine gd_t ?_
    rw [bin_eql, dec_same]
    refine gd_t ?_
    rw [bin_eql, dec_same]
    refine gd_t ?_
    rw [(hbs.ext x27).len Ty.bytes, bin_add, i64_wrap (by dsimp only; omega) (by dsimp only; omega), bin_eql]
    refine Gd_i (fun _ => ?_) fun h => by simp at h
    refine SRecord.row_lit0 fun v8 w8 x8 h8 _ => ?_
    have z8 := x8.size
    refine SRecord.row_apps h8 (Sl.ext hrs (x27.trans x8)) (by simp; omega) z8 fun v9 w9 h9 m9 => ?_
    have x9 : Ext w7 w9 := ((Mod.of_ext x8 : Mod (w7.heap.size ≤ ·) w7 w8).trans (app_own_mod h8 m9)).new
    have z9 := x9.size
    refine SRecord.row_apps h9 (Sl.ext hn x9) (by simp; omega) (by omega) fun v10 w10 h10 m10 => ?_
    have x10 : Ext w7 w10 := ((Mod.of_ext x9 : Mod (w7.heap.size ≤ ·) w7 w9).trans (app_own_mod h9 m10)).new
    rw [List.nil_append] at h10
    refine callF_ret (sameRecs_ret w10 (Sl.ext hm (x7.trans x10)) (Sl.of_owns h10)) ?_
    rintro _ w11 ⟨rfl, x11⟩
    exact hR _ _ ⟨by simp, x1.trans (x2.trans ((x27.trans x10).trans x11))⟩
  · refine join1 (fun c w' => ∃ q, c = .bool q ∧ w' = w1 ∧ (q = false → l.length ≤ 20 ∧ b.length ≤ 1000)) ?_ fun K' hK' => ?_
    · rintro _ _ w' hb ⟨q, rfl, rfl, hl⟩
      rw [hb]
      exact Br_i (fun _ => hR _ _ ⟨rfl, x1⟩) fun hq => hK _ ⟨rfl, hl hq⟩
    · rw [SRecord.row_len h0, bin_gtr]
      refine Gd_i (fun hb => ?_) fun _ => hK' _ _ ⟨_, rfl, rfl, fun h => by cases h⟩
      have h20 := dec_f hb
      rw [h1.len Ty.bytes, bin_gtr]
      exact hK' _ _ ⟨_, rfl, rfl, fun hb3 => ⟨by omega, by have := dec_f hb3; omega⟩⟩
end Go.Proofs.Ytahplhcijlgelaa
