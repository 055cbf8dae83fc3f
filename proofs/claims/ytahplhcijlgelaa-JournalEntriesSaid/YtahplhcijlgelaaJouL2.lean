/- The walks of the laws Changed, Goes and Entries of the journal. -/
import Derived.Test.YtahplhcijlgelaaJouL1
namespace Go.Proofs.Ytahplhcijlgelaa
set_option maxRecDepth 100000
set_option maxHeartbeats 4000000
open Sh Go.RowKit
theorem JournalChanged_ret {v0 : Value} {l : List SRecord} {at_ by_ : Int} (hat : 0 ≤ at_ ∧ at_ < 65536) (hby : 0 ≤ by_ ∧ by_ < 256) (hok : ∀ r ∈ l, r.Ok) (w : World) (h0 : SRecord.Row w v0 l) :
    Ret Try.prog 6 #[v0, .int .u16 at_, .int .u8 by_] w (TrueQ w) := by
  refine ret_of (fun _ _ => sh_landfalllaw40_JournalChanged_ok _ _ _) fun R hR => ?_
  unfold sh_landfalllaw40_JournalChanged
  obtain ⟨i8, hi8, hz8, hs8, _⟩ := Ty.info_parts Ty.u8_info
  refine callF_ret (head_ret w) ?_
  rintro _ w1 ⟨rfl, x1⟩
  have h0 := Sl.ext h0 x1
  refine join0 (fun w' => w' = w1 ∧ l.length ≤ 20 ∧ by_ ≠ 0) ?_ fun K hK => ?_
  · rintro _ w' ⟨rfl, hl20, hb0⟩
    refine callF_ret (written_ret hok (by omega) w' h0) ?_
    rintro _ w2 ⟨vb, ve, vr, rfl, hbs, hes, hrs, x2⟩
    obtain ⟨hff, hfo, hfl⟩ := kept_all hok
    generalize l.filter Jou.form = fs at *
    have hal := jbytes_few fs hfo
    rw [ext4_0, ext4_1, ext4_2, ext4_3, un_not]
    refine br_f ?_
    rw [hes.len Ty.ints, jends_length, bin_eql]
    refine Br_i (fun hb => ?_) fun hb => ?_
    · have h1 := dec_t hb
      have : fs = [] := List.eq_nil_of_length_eq_zero (by omega)
      subst this
      refine gd_t ?_
      rw [hbs.len Ty.bytes, bin_eql]
      exact hR _ _ ⟨by simp [Jou.bytes_nil], x1.trans x2⟩
    · have hpos : 0 < fs.length := by have := dec_f hb; omega
      obtain ⟨n, hn⟩ : ∃ n, fs.length = n + 1 := ⟨fs.length - 1, by omega⟩
      obtain ⟨r, hr⟩ : ∃ r, r = fs[n]'(by omega) := ⟨_, rfl⟩
      have hlast : fs = fs.take n ++ [r] := by
        rw [hr, ← List.take_succ_eq_append_getElem (by omega), ← hn, List.take_of_length_le (Nat.le_refl _)]
      have hmem : r ∈ fs := by rw [hr]; exact List.getElem_mem _
      have hfr := jframe_few (hfo r hmem)
      have hall : Jou.bytes fs = Jou.bytes (fs.take n) ++ Jou.frameOf r := by
        conv => lhs; rw [hlast]
        rw [Jou.bytes_snoc]
      have hlen : (Jou.bytes fs).length = (Jou.bytes (fs.take n)).length + (Jou.frameOf r).length := by rw [hall, List.length_append]
      refine join1 (fun x w3 => x = .int .i64 (Jou.bytes (fs.take n)).length ∧ w3 = w2) ?_ fun K hK => ?_
      · rintro _ _ w3 hfrom ⟨rfl, hw⟩
        subst w3
        rw [hfrom, hbs.len Ty.bytes, bin_add, i64_wrap (by omega) (by omega), bin_lss, show decide (((Jou.bytes fs).length : Int) < ((Jou.bytes (fs.take n)).length : Int) + 4) = false by rw [decide_eq_false_iff_not]; omega]
        refine br_f ?_
        refine lit_nobytes fun v3 w3 x3 h3 _ => ?_
        have z3 := x3.size
        refine app_bytes h3 (hbs.ext x3) (by simp; omega) z3 fun v4 w4 h4 m4 => ?_
        have x4 : Ext w2 w4 := ((Mod.of_ext x3 : Mod (w2.heap.size ≤ ·) w2 w3).trans (m4.mono fun k _ h => (Own.block h3 h).1)).new
        rw [List.nil_append] at h4
        obtain ⟨i, hieq⟩ : ∃ i, i = 3 + at_.toNat % ((Jou.frameOf r).length - 3) := ⟨_, rfl⟩
        have hm := Nat.mod_lt at_.toNat (show 0 < (Jou.frameOf r).length - 3 by omega)
        rw [bin_add, i64_wrap (by omega) (by omega), conv_int Ty.u16 Ty.int, i64_wrap (by omega) (by omega), (hbs.ext x4).len Ty.bytes, bin_sub, i64_wrap (by omega) (by omega), bin_sub, i64_wrap (by omega) (by omega), bin_rem (by omega),
          show ((Jou.bytes fs).length : Int) - (Jou.bytes (fs.take n)).length - 3 = (((Jou.frameOf r).length - 3 : Nat) : Int) by omega, tmod_nat hat.1, bin_add, i64_wrap (by omega) (by omega),
          show ((Jou.bytes (fs.take n)).length : Int) + 3 + ((at_.toNat % ((Jou.frameOf r).length - 3) : Nat) : Int) = (((Jou.bytes (fs.take n)).length + i : Nat) : Int) by omega]
        have hil : i < (Jou.frameOf r).length := by omega
        obtain ⟨g, o, hc, hg, hix⟩ := (Sl.of_owns h4).index Ty.bytes hi8 hs8 (k := .i64) (j := (Jou.bytes (fs.take n)).length + i) (by omega) (by decide)
        have hget : (Jou.bytes fs)[(Jou.bytes (fs.take n)).length + i]? = some (Jou.frameOf r)[i] := by
          rw [hall, List.getElem?_append_right (by omega), Nat.add_sub_cancel_left, List.getElem?_eq_getElem hil]
        rw [hix, load_cell Ty.u8_agg (u := .int .u8 ((Jou.frameOf r)[i]).toNat) (by rw [Nat.mul_one]; exact hc _ _ (by rw [bv, List.getElem?_map, hget]; rfl)), bin_xor]
        obtain ⟨c, hcne, hce⟩ := xor_ne (x := (Jou.frameOf r)[i]) hby hb0
        rw [hce]
        refine own_set Ty.bytes hi8 hs8 Ty.u8_size h4 (by omega) rfl fun w5 h5 m5 hsz5 => ?_
        have x5 : Ext w2 w5 := ((Mod.of_ext x4 : Mod (w2.heap.size ≤ ·) w2 w4).trans (m5.mono fun k _ h => by have := (Own.block h4 h).1; omega)).new
        have hset : (bv (Jou.bytes fs)).set ((Jou.bytes (fs.take n)).length + i) (.int .u8 c.toNat) = bv ((Jou.bytes fs).set ((Jou.bytes (fs.take n)).length + i) c) := by simp [bv, List.map_set]
        rw [hset] at h5
        have h5' : Sl w5 1 v4 ((Jou.bytes fs).set ((Jou.bytes (fs.take n)).length + i) c).length (bv ((Jou.bytes fs).set ((Jou.bytes (fs.take n)).length + i) c)) := by
          rw [List.length_set]; exact Sl.of_owns h5
        refine callF_ret (jLoad_ret w5 h5') ?_
        rintro _ w6 ⟨m, rfl, hm', x6⟩
        rw [loadV_of (by rw [List.length_set]; omega), hall, Jou.load_changed (fun r hr => hff r (List.mem_of_mem_take hr)) (fun r hr => hfo r (List.mem_of_mem_take hr)) (hfo r hmem) (by omega) hil hcne] at hm' ⊢
        rw [ext3_0, ext3_1, ext3_2]
        have x26 := x5.trans x6
        refine gd_t ?_
        rw [bin_eql, dec_same]
        refine gd_t ?_
        rw [bin_eql, dec_same]
        refine gd_t ?_
        have hrs6 : SRecord.Row w6 vr fs := Sl.ext hrs x26
        rw [SRecord.row_len hrs6, bin_sub, i64_wrap (by omega) (by omega), show (fs.length : Int) - 1 = (n : Int) by omega]
        refine SRecord.row_upto hrs6 (by omega) fun v7 h7 => ?_
        refine callF_ret (sameRecs_ret w6 hm' h7) ?_
        rintro _ w8 ⟨rfl, x8⟩
        exact hR _ _ ⟨by simp, x1.trans (x2.trans (x26.trans x8))⟩
      · rw [hes.len Ty.ints, jends_length, bin_gtr]
        refine Br_i (fun hb => ?_) fun hb => ?_
        · have h1 := dec_t hb
          rw [hes.len Ty.ints, jends_length, bin_sub, i64_wrap (by omega) (by omega), show (fs.length : Int) - 2 = ((n - 1 : Nat) : Int) by omega]
          obtain ⟨g, o, hg, hc, hix⟩ := jends_at hes (show n - 1 < fs.length by omega)
          rw [hix, load_cell Ty.int_agg hc, show n - 1 + 1 = n by omega]
          exact hK _ _ ⟨rfl, rfl⟩
        · have h1 := dec_f hb
          have : n = 0 := by omega
          subst this
          exact hK _ _ ⟨by simp [Jou.bytes_nil], rfl⟩
  · refine join1 (fun c w' => ∃ q, c = .bool q ∧ w' = w1 ∧ (q = false → l.length ≤ 20 ∧ by_ ≠ 0)) ?_ fun K' hK' => ?_
    · rintro _ _ w' hb ⟨q, rfl, rfl, hl⟩
      rw [hb]
      exact Br_i (fun _ => hR _ _ ⟨rfl, x1⟩) fun hq => hK _ ⟨rfl, hl hq⟩
    · rw [SRecord.row_len h0, bin_gtr]
      refine Gd_i (fun hb => ?_) fun _ => hK' _ _ ⟨_, rfl, rfl, fun h => by cases h⟩
      have h20 := dec_f hb
      rw [bin_eql]
      exact hK' _ _ ⟨_, rfl, rfl, fun hb3 => ⟨by omega, by have := dec_f hb3; exact this⟩⟩
theorem load_inv (b : List UInt8) : (∀ r ∈ (Jou.load b).1, Jou.form r = true ∧ r.Ok) ∧ b.take (Jou.load b).2 = Jou.bytes (Jou.load b).1 ∧ (Jou.load b).2 = (Jou.bytes (Jou.load b).1).length ∧ (Jou.load b).2 ≤ b.length ∧ (Jou.load b).1.length ≤ b.length := by
  obtain ⟨hc1, hc2⟩ := Cod.frames_count b
  obtain ⟨hi1, hi2⟩ := Cod.frames_inv b
  obtain ⟨q1, q2, q3, q4⟩ := Jou.loadL_size (Cod.frames b).1 fun l hl => (hi2 l hl).1
  have hc3 := Cod.frames_len b
  have q2 : (Jou.load b).1.length ≤ (Cod.frames b).1.length := q2
  have q4 : (Jou.load b).2 = (Jou.bytes (Jou.load b).1).length := q4
  have e2 : Jou.bytes (Jou.load b).1 = Cod.all ((Cod.frames b).1.take (Jou.load b).1.length) := by
    show Cod.all ((Jou.load b).1.map Jou.ints) = _
    rw [show (Jou.load b).1.map Jou.ints = _ from q3]; rfl
  have e3 : Cod.all (Cod.frames b).1 = Cod.all ((Cod.frames b).1.take (Jou.load b).1.length) ++ Cod.all ((Cod.frames b).1.drop (Jou.load b).1.length) := by rw [← Cod.all_append, List.take_append_drop]
  have e4 := congrArg List.length e3
  rw [List.length_append, ← e2] at e4
  refine ⟨q1, ?_, q4, by omega, by omega⟩
  have e5 : b.take (Jou.load b).2 = (b.take (Cod.frames b).2).take (Jou.load b).2 := by rw [List.take_take, Nat.min_eq_left (by omega)]
  rw [e5, hi1, e3, ← e2, q4, List.take_left' rfl]
/-- Where the loop of Goes stands. -/
def GoAt (w0 : World) (before l : List SRecord) (k : Nat) (x y : Value) (w : World) : Prop :=
  k ≤ l.length ∧ ∃ fs : List SRecord, fs = before ++ (l.take k).filter Jou.form ∧ w.ownsRow w0.heap.size 5 1 x (Jou.bytes fs).length (bv (Jou.bytes fs)) ∧ SRecord.Owns w0.heap.size w y fs ∧ Mod (w0.heap.size ≤ ·) w0 w
theorem JournalGoes_ret {v0 v1 : Value} {b : List UInt8} {l : List SRecord} (hok : ∀ r ∈ l, r.Ok) (w : World) (h0 : Sl w 1 v0 b.length (bv b)) (h1 : SRecord.Row w v1 l) :
    Ret Try.prog 7 #[v0, v1] w (TrueQ w) := by
  refine ret_of (fun _ _ => sh_landfalllaw40_JournalGoes_ok _ _) fun R hR => ?_
  unfold sh_landfalllaw40_JournalGoes
  refine callF_ret (head_ret w) ?_
  rintro _ w1 ⟨rfl, x1⟩
  have h0 := h0.ext x1
  have h1 := Sl.ext h1 x1
  refine join0 (fun w' => w' = w1 ∧ b.length ≤ 1000 ∧ l.length ≤ 10) ?_ fun K hK => ?_
  · rintro _ w' ⟨rfl, hbl, hl10⟩
    refine callF_ret (jLoad_ret w' h0) ?_
    rintro _ w2 ⟨m, rfl, hm, x2⟩
    obtain ⟨hq, htake, hn, hnb, hml⟩ := load_inv b
    rw [loadV_of (by omega)] at hm ⊢
    rw [ext3_0, ext3_1, ext3_2]
    generalize (Jou.load b).2 = n at *
    generalize (Jou.load b).1 = before at *
    have hm : SRecord.Row w2 m before := hm
    have hby : (Jou.bytes before).length ≤ 1000 := by omega
    refine join0 (fun w' => w' = w2) ?_ fun K hK => ?_
    · rintro _ w' hw
      subst w'
      refine lit_nobytes fun v3 w3 x3 h3 _ => ?_
      have z3 := x3.size
      refine up_bytes (h0.ext (x2.trans x3)) (by dsimp only; omega) fun v4 h4 => ?_
      rw [htake] at h4
      refine app_bytes h3 h4 (by simp; omega) z3 fun v5 w5 h5 m5 => ?_
      rw [List.nil_append] at h5
      have hm5 : Mod (w2.heap.size ≤ ·) w2 w5 := (Mod.of_ext x3 : Mod (w2.heap.size ≤ ·) w2 w3).trans (m5.mono fun k _ h => (Own.block h3 h).1)
      have z5 := hm5.size
      refine SRecord.row_lit0 fun v6 w6 x6 h6 _ => ?_
      have z6 := x6.size
      have h6 : SRecord.Owns w2.heap.size w6 v6 [] := Own.mono h6 z5
      refine SRecord.row_apps h6 (Sl.ext hm (hm5.new.trans x6)) (by simp; omega) (by omega) fun v7 w7 h7 m7 => ?_
      rw [List.nil_append] at h7
      have h57 : w7.ownsRow w2.heap.size 5 1 v5 (Jou.bytes before).length (bv (Jou.bytes before)) := Own.mod (Own.ext h5 x6) m7 (Own.off_own h6 (Own.ext h5 x6) (by decide))
      have hm7 : Mod (w2.heap.size ≤ ·) w2 w7 := (hm5.trans (.of_ext x6)).trans (app_own_mod h6 m7)
      refine loop3 (fun x y z w1 => ∃ k : Nat, z = .int .i64 k ∧ GoAt w2 before l k x y w1) (fun _ _ z _ => l.length - (intOf z).toNat) ⟨0, rfl, by omega, before, by simp, h57, h7, hm7⟩ ?_
      rintro hh x y _ w8 hx hy hz ⟨k, rfl, hk, fs, hfs, hox, hoy, hm8⟩ K hK
      have x8 := hm8.new
      have z8 := x8.size
      have hv1 : SRecord.Row w2 v1 l := Sl.ext h1 x2
      have hfl : fs.length ≤ before.length + k := by rw [hfs, List.length_append]; have := List.length_filter_le Jou.form (l.take k); rw [List.length_take] at this; omega
      have hgood : ∀ r ∈ fs, Jou.form r = true ∧ r.Ok := fun r hr => by
        rw [hfs, List.mem_append] at hr
        rcases hr with hr | hr
        · exact hq r hr
        · exact ⟨(List.mem_filter.1 hr).2, hok r (List.mem_of_mem_take (List.mem_filter.1 hr).1)⟩
      have hbyf : (Jou.bytes fs).length ≤ 1000 + 400 * k := by
        rw [hfs, Jou.bytes_append, List.length_append]
        have h1 := jbytes_few ((l.take k).filter Jou.form) fun r hr => hok r (List.mem_of_mem_take (List.mem_filter.1 hr).1)
        have h2 := List.length_filter_le Jou.form (l.take k)
        rw [List.length_take] at h2
        omega
      rw [SRecord.row_len (Sl.ext hv1 x8), hx, hy, hz, bin_lss]
      refine Br_i (fun hb => ?_) fun hb => ?_
      · have hlt : k < l.length := by have := dec_t hb; omega
        have htk : (l.take (k + 1)).filter Jou.form = (l.take k).filter Jou.form ++ [l[k]].filter Jou.form := by rw [List.take_succ_eq_append_getElem hlt, List.filter_append]
        refine join2 (fun x' y' w' => GoAt w2 before l (k + 1) x' y' w') ?_ fun K4 hK4 => ?_
        · rintro h4 x' y' w' h4x h4y hq
          rw [h4x, h4y, bin_add, i64_wrap (by omega) (by omega)]
          exact hK _ _ _ _ ⟨k + 1, by simp, hq⟩ (by simp [intOf]; omega)
        · obtain ⟨g, o, hhas, hbl, hix⟩ := SRecord.row_at hv1 hlt
          rw [hix, SRecord.g_all (hhas w8 x8)]
          refine callF_ret (Form_ret l[k] w8) ?_
          rintro _ w9 ⟨rfl, x9⟩
          rw [un_not]
          have hm9 : Mod (w2.heap.size ≤ ·) w2 w9 := hm8.trans (.of_ext x9)
          refine Br_i (fun hb => ?_) fun hb => ?_
          · have hf : Jou.form l[k] = false := by simpa using hb
            exact hK4 _ _ _ ⟨by omega, fs, by rw [htk, hfs]; simp [hf], Own.ext hox x9, Own.ext hoy x9, hm9⟩
          · have hf : Jou.form l[k] = true := by simpa using hb
            have hlk := hok l[k] (List.getElem_mem hlt)
            have hfr := (jframe_few hlk).2
            rw [hix, SRecord.g_all (hhas w9 hm9.new)]
            refine callF_ret (jPut_ret hlk (by omega) w9 (Sl.of_owns (Own.ext hox x9))) ?_
            rintro _ w10 ⟨vb, rfl, hvb, x10⟩
            rw [jputV_ok hf (by omega), ← Jou.bytes_snoc] at hvb ⊢
            rw [ext2_0, ext2_1, bin_neq]
            refine br_f ?_
            have z9 := x9.size
            have z10 := x10.size
            have hm10 : Mod (w2.heap.size ≤ ·) w2 w10 := hm9.trans (.of_ext x10)
            have hvb : w10.ownsRow w9.heap.size 5 1 vb (Jou.bytes (fs ++ [l[k]])).length (bv (Jou.bytes (fs ++ [l[k]]))) := hvb
            rw [hix, SRecord.g_all (hhas w10 hm10.new)]
            have hoy10 := Own.ext hoy (x9.trans x10)
            obtain ⟨ir, hir, hrz, hrs, hrb⟩ := Ty.info_parts Ty.SRecord_info
            refine SRecord.row_lit [l[k]] rfl (by decide) (by decide) rfl fun v11 w11 x11 h11 _ => ?_
            have z11 := x11.size
            refine SRecord.row_apps (Own.ext hoy10 x11) (Sl.of_owns h11) (by simp; omega) (by omega) fun v12 w12 h12 m12 => ?_
            refine hK4 _ _ _ ⟨by omega, fs ++ [l[k]], by rw [htk, hfs]; simp [hf], ?_, h12, (hm10.trans (.of_ext x11)).trans (app_own_mod (Own.ext hoy10 x11) m12)⟩
            exact Own.mono (Own.mod (Own.ext hvb x11) m12 (Own.off_own (Own.ext hoy10 x11) (Own.ext hvb x11) (by decide))) (by omega)
      · have hge : l.length ≤ k := by have := dec_f hb; omega
        refine callF_ret (jLoad_ret w8 (Sl.of_owns hox)) ?_
        rintro _ w9 ⟨m9, rfl, hm9, x9⟩
        rw [loadV_of (by omega), Jou.load_all (fun r hr => (hgood r hr).1) fun r hr => (hgood r hr).2] at hm9 ⊢
        rw [ext3_0, ext3_1, ext3_2]
        refine gd_t ?_
        rw [bin_eql, dec_same]
        refine gd_t ?_
        rw [((Sl.of_owns hox).ext x9).len Ty.bytes, bin_eql, dec_same]
        refine gd_t ?_
        refine callF_ret (sameRecs_ret w9 hm9 (Sl.ext (Sl.of_owns hoy) x9)) ?_
        rintro _ w10 ⟨rfl, x10⟩
        exact hR _ _ ⟨by simp, x1.trans (x2.trans ((x8.trans x9).trans x10))⟩
    · refine join1 (fun b w4 => b = .bool false ∧ w4 = w2) ?_ fun K' hK' => ?_
      · rintro _ _ w4 hbb ⟨rfl, rfl⟩
        rw [hbb]
        exact br_f (hK _ rfl)
      · rw [bin_neq]
        refine gd_f ?_
        rw [bin_lss, show decide ((n : Int) < 0) = false by rw [decide_eq_false_iff_not]; omega]
        refine gd_f ?_
        rw [(h0.ext x2).len Ty.bytes, bin_gtr]
        exact hK' _ _ ⟨by rw [show decide ((b.length : Int) < (n : Int)) = false by rw [decide_eq_false_iff_not]; omega], rfl⟩
  · refine join1 (fun c w' => ∃ q, c = .bool q ∧ w' = w1 ∧ (q = false → b.length ≤ 1000 ∧ l.length ≤ 10)) ?_ fun K' hK' => ?_
    · rintro _ _ w' hb ⟨q, rfl, rfl, hl⟩
      rw [hb]
      exact Br_i (fun _ => hR _ _ ⟨rfl, x1⟩) fun hq => hK _ ⟨rfl, hl hq⟩
    · rw [h0.len Ty.bytes, bin_gtr]
      refine Gd_i (fun hb => ?_) fun _ => hK' _ _ ⟨_, rfl, rfl, fun h => by cases h⟩
      have h20 := dec_f hb
      rw [SRecord.row_len h1, bin_gtr]
      exact hK' _ _ ⟨_, rfl, rfl, fun hb3 => ⟨by omega, by have := dec_f hb3; omega⟩⟩
end Go.Proofs.Ytahplhcijlgelaa
