/- The walk of the law Entries of the journal. -/
import Derived.Test.YtahplhcijlgelaaJouL2
namespace Go.Proofs.Ytahplhcijlgelaa
set_option maxRecDepth 100000
set_option maxHeartbeats 4000000
open Sh Go.RowKit
namespace Jou
theorem keptL_append : ∀ (a b : List SRecord) (out : List SEntry), keptL out (a ++ b) = (keptL out a).bind fun o => keptL o b
  | [], b, out => rfl
  | r :: a, b, out => by
    simp only [List.cons_append, keptL]
    split
    · split
      · exact keptL_append a b _
      · rfl
    · split
      · exact keptL_append a b _
      · rfl
/-- Records that keep entries, and so does each beginning of them. -/
def Good (rs : List SRecord) (es : List SEntry) : Prop := (∀ r ∈ rs, form r = true ∧ r.Ok) ∧ kept rs = some es ∧ ∀ j, ∃ m, kept (rs.take j) = some (es.take m)
theorem Good.nil : Good [] [] := ⟨fun r h => by simp at h, rfl, fun j => ⟨0, by simp [kept, keptL]⟩⟩
theorem Good.snoc {rs : List SRecord} {es es' : List SEntry} {r : SRecord} (h : Good rs es) (hr : form r = true ∧ r.Ok) (hk : keptL es [r] = some (es ++ es')) : Good (rs ++ [r]) (es ++ es') := by
  obtain ⟨h1, h2, h3⟩ := h
  have hall : kept (rs ++ [r]) = some (es ++ es') := by
    unfold kept at h2 ⊢
    rw [keptL_append, h2]; exact hk
  refine ⟨fun x hx => ?_, hall, fun j => ?_⟩
  · rcases List.mem_append.1 hx with hx | hx
    · exact h1 x hx
    · simp only [List.mem_singleton] at hx; subst hx; exact hr
  · by_cases hj : j ≤ rs.length
    · obtain ⟨m, hm⟩ := h3 j
      refine ⟨min m es.length, ?_⟩
      rw [List.take_append_of_le_length hj, hm, List.take_append_of_le_length (Nat.min_le_right _ _)]
      congr 1
      rcases Nat.le_total m es.length with h | h
      · rw [Nat.min_eq_left h]
      · rw [Nat.min_eq_right h, List.take_of_length_le h, List.take_of_length_le (Nat.le_refl _)]
    · refine ⟨(es ++ es').length, ?_⟩
      rw [List.take_of_length_le (by simp; omega), List.take_of_length_le (Nat.le_refl _), hall]
theorem Good.chk {rs : List SRecord} {es : List SEntry} {n : Int} {c : BitVec 64} (h : Good rs es) (hn : n = (es.length : Int)) (hl : es.length ≤ 2000) : Good (rs ++ [⟨2, SEntry.zero, n, c⟩]) es := by
  have := h.snoc (es' := []) (r := ⟨2, SEntry.zero, n, c⟩) ⟨by
    unfold form
    rw [if_neg (show ¬ (2 : Int) = 1 by decide)]
    simp only [Bool.and_eq_true, decide_eq_true_eq]
    exact ⟨trivial, by omega, by omega, trivial⟩, by simp [SRecord.Ok, SEntry.Ok, SSpan.Ok, SEntry.zero, I64]; omega⟩ (by
    simp only [keptL, if_neg (show ¬ (2 : Int) = 1 by decide), hn, if_true, List.append_nil])
  rw [List.append_nil] at this
  exact this
theorem Good.ent {rs : List SRecord} {es : List SEntry} {e : SEntry} (h : Good rs es) (hn : e.seq = (es.length : Int) + 1) (ho : e.Ok) (hl : es.length < 2000) : Good (rs ++ [⟨1, e, 0, 0⟩]) (es ++ [e]) :=
  h.snoc ⟨by
    unfold form
    rw [if_pos rfl]
    simp only [Bool.and_eq_true, decide_eq_true_eq]
    exact ⟨by omega, by omega, trivial, rfl⟩, ⟨by simp [I64], ho, by simp [I64], trivial⟩⟩ (by
    simp only [keptL, if_true, hn])
theorem torn_exists (rs : List SRecord) (n : Nat) : ∀ k, ∃ j, j ≤ k ∧ (bytes (rs.take j)).length ≤ n ∧ (j < k → n < (bytes (rs.take (j + 1))).length)
  | 0 => ⟨0, Nat.le_refl _, by simp [bytes_nil], fun h => by omega⟩
  | k + 1 => by
    obtain ⟨j, h1, h2, h3⟩ := torn_exists rs n k
    by_cases hj : j < k
    · exact ⟨j, by omega, h2, fun _ => h3 hj⟩
    · have : j = k := by omega
      subst this
      by_cases hn : (bytes (rs.take (j + 1))).length ≤ n
      · exact ⟨j + 1, by omega, hn, fun h => by omega⟩
      · exact ⟨j, by omega, h2, fun _ => by omega⟩
end Jou
theorem entriesV_good {rs : List SRecord} {es : List SEntry} (hf : ∀ r ∈ rs, Jou.form r = true) (hk : Jou.kept rs = some es) (hl : rs.length ≤ 4000) : entriesV rs = (es, 0) := by
  unfold entriesV
  rw [if_neg (by omega), if_pos hf, hk]
/-- Where the loop stands. -/
def EnAt (w0 : World) (k : Nat) (x y : Value) (w : World) : Prop :=
  ∃ (rs : List SRecord) (es : List SEntry), es.length = k ∧ rs.length ≤ 2 * k ∧ Jou.Good rs es ∧ SRecord.Owns w0.heap.size w x rs ∧ SEntry.Owns w0.heap.size w y es ∧ Mod (w0.heap.size ≤ ·) w0 w
theorem JournalEntries_ret {v0 : Value} {l : List SEntry} {checks cut : Int} {chain : BitVec 64} (hch : 0 ≤ checks ∧ checks < 4294967296) (hcut : 0 ≤ cut ∧ cut < 65536) (hok : ∀ r ∈ l, r.Ok) (w : World) (h0 : SEntry.Row w v0 l) :
    Ret Try.prog 8 #[v0, .int .u32 checks, u64v chain, .int .u16 cut] w (TrueQ w) := by
  refine ret_of (fun _ _ => sh_landfalllaw40_JournalEntries_ok _ _ _ _) fun R hR => ?_
  unfold sh_landfalllaw40_JournalEntries
  refine callF_ret (head_ret w) ?_
  rintro _ w1 ⟨rfl, x1⟩
  have h0 := Sl.ext h0 x1
  rw [SEntry.row_len h0, bin_gtr]
  refine Br_i (fun _ => hR _ _ ⟨rfl, x1⟩) fun hb => ?_
  have hl20 : l.length ≤ 20 := by have := dec_f hb; omega
  rw [SEntry.row_len h0]
  refine loop3 (fun x y z w2 => ∃ k : Nat, k ≤ l.length ∧ z = .int .i64 k ∧ EnAt w1 k x y w2) (fun _ _ z _ => l.length - (intOf z).toNat) ⟨0, by omega, rfl, [], [], rfl, by simp, Jou.Good.nil, SRecord.owns_nil _ _, SEntry.owns_nil _ _, Mod.refl _ _⟩ ?_
  rintro hh x y _ w2 hx hy hz ⟨k, hk, rfl, rs, es, hes, hrl, hgood, hox, hoy, hm2⟩ K hK
  have x2 := hm2.new
  have z2 := x2.size
  rw [hx, hy, hz, bin_lss]
  refine Br_i (fun hb => ?_) fun hb => ?_
  · have hlt : k < l.length := by have := dec_t hb; omega
    have hlk := hok l[k] (List.getElem_mem hlt)
    refine join2 (fun x' y' w' => EnAt w1 (k + 1) x' y' w') ?_ fun K4 hK4 => ?_
    · rintro h4 x' y' w' h4x h4y hq
      rw [h4x, h4y, bin_add, i64_wrap (by omega) (by omega)]
      exact hK _ _ _ _ ⟨k + 1, by omega, by simp, hq⟩ (by simp [intOf]; omega)
    · obtain ⟨b, o, hhas, hbl, hix⟩ := SEntry.row_at h0 hlt
      rw [hix, SEntry.g_all (hhas w2 x2)]
      refine alloc_i Ty.SEntry_zero fun g w3 x3 hat hg _ => ?_
      refine SEntry.set (r := SEntry.zero) hat fun w4 m4 h4 s4 => ?_
      have z3 := x3.size
      have m24 : Mod (w2.heap.size ≤ ·) w2 w4 := (Mod.of_ext x3 : Mod (w2.heap.size ≤ ·) w2 w3).trans (m4.mono fun k _ h => by omega)
      have hm4 : Mod (w1.heap.size ≤ ·) w1 w4 := hm2.trans (m24.mono fun k _ h => by omega)
      have z4 := hm4.size
      have hox4 := Own.ext hox m24.new
      have hoy4 := Own.ext hoy m24.new
      have hgl : ∀ k, x.ownBlock = some k → k ≠ g := fun k hk e => by have := (Own.block hox hk).2; omega
      have hgl2 : ∀ k, y.ownBlock = some k → k ≠ g := fun k hk e => by have := (Own.block hoy hk).2; omega
      refine join1 (fun x' w' => ∃ rs', Jou.Good rs' es ∧ rs'.length ≤ 2 * k + 1 ∧ SRecord.Owns w1.heap.size w' x' rs' ∧ SEntry.Owns w1.heap.size w' y es ∧ At w' g (.cells l[k].cells.toArray 26 (0, 0)) ∧ Mod (w1.heap.size ≤ ·) w1 w' ∧ (∀ k, x'.ownBlock = some k → k ≠ g)) ?_ fun K5 hK5 => ?_
      · rintro h5 x' w5 h5x ⟨rs', hgood', hrl', hox', hoy', hat', hm5, hxg⟩
        rw [h5x, bin_add, i64_wrap (by omega) (by omega), Ty.SEntry_f0]
        refine store_i Ty.int_size hat' (by simp [SEntry.cells_eq]) rfl fun w6 m6 h6 s6 => ?_
        obtain ⟨e, he⟩ : ∃ e : SEntry, e = { l[k] with seq := (k : Int) + 1 } := ⟨_, rfl⟩
        have hcells : l[k].cells.toArray.setIfInBounds 0 (.int .i64 ((k : Int) + 1)) = e.cells.toArray := by
          rw [he]
          apply Array.ext'
          simp [SEntry.cells_eq]
        rw [hcells] at h6
        have hox6 := Own.mod hox' m6 fun k hk e => hxg k hk e
        have hoy6 := Own.mod hoy' m6 fun k hk e => hgl2 k hk e
        have hm6 : Mod (w1.heap.size ≤ ·) w1 w6 := hm5.trans (m6.mono fun k _ h => by omega)
        have hm7 : Mod (w1.heap.size ≤ ·) w1 w6.drew := hm6.trans (.of_ext (Ext.drew w6))
        have h7 := h6.ext (Ext.drew w6)
        have hox7 := Own.ext hox6 (Ext.drew w6)
        have hoy7 := Own.ext hoy6 (Ext.drew w6)
        refine drawR2 (fun k => x'.ownBlock = some k) (fun _ => False) ?_
        generalize w6.drew = w7 at *
        have hg7 : ∀ w8, Mod (fun k => x'.ownBlock = some k ∨ False) w7 w8 → Has w8 g 0 e.cells := fun w8 h78 => has_of_at (h7.mod h78 fun hor => by rcases hor with h | h; exact hxg g h rfl; exact h)
        have eo : e.Ok := by rw [he]; exact ⟨by show I64 ((k : Int) + 1); unfold I64; omega, hlk.2⟩
        have z7 := hm7.size
        obtain ⟨ir, hir, hrz, hrs, hrb⟩ := Ty.info_parts Ty.SRecord_info
        obtain ⟨ie, hie, hez, hes', heb⟩ := Ty.info_parts Ty.SEntry_info
        refine det_r2 (.agg e.cells.toArray) (fun w8 h8 K => SEntry.g_all (hg7 w8 h8)) ?_
        refine det_r2 (.agg (SRecord.mk 1 e 0 0).cells.toArray) (fun w8 h8 K => build_i (new_entry_rec e)) ?_
        refine det_r2 (.agg e.cells.toArray) (fun w8 h8 K => SEntry.g_all (hg7 w8 h8)) ?_
        refine thr_append (c := SRecord.cells) (l := rs') (a := ⟨1, e, 0, 0⟩) (By := fun k => x'.ownBlock = some k) (Bz := fun _ => False) (base := w1.heap.size) Ty.SRecord_row hir hrz hrs hrb rfl (by decide) (by decide) SRecord.len SRecord.one rfl rfl S2_0 rfl
          (fun _ h => h) (fun k hk => hk.elim) (fun _ _ h => h) hox7 (by omega) (by omega) z7 ?_
        refine thr_lit (c := SEntry.cells) (a := e) (Bz := fun k => x'.ownBlock = some k) Ty.SEntry_row hie hez hes' (by decide) (by decide) SEntry.len rfl rfl (fun u hu a b hab => S2_1 u hu a b (.of_ext hab)) rfl (fun k hk => (Own.block hox7 hk).2) ?_
        rintro h8 w8 h78 ⟨_, ⟨_, v1, v1', e1, ho1⟩, v2, e2, ho2⟩
        simp only [List.map_cons, List.map_nil, List.cons.injEq, and_true] at e1 e2
        obtain ⟨_, e1⟩ := e1
        have hm8 : Mod (w1.heap.size ≤ ·) w1 w8 := hm7.trans (h78.mono fun k _ hk => by rcases hk with hk | hk; exact (Own.block hox7 hk).1; exact hk.elim)
        have hoy8 := Own.mod hoy7 h78 fun k hk hor => by
          rcases hor with hor | hor
          · exact Own.off_own hox7 hoy7 (by decide) k hk hor
          · exact hor
        have z8 := hm8.size
        have hr2 : SEntry.Row w8 (h8 61) [e] := by
          rw [e2]
          have hfl : fl SEntry.cells [e] = e.cells := by simp [fl]
          show Sl w8 12 v2 1 (fl SEntry.cells [e])
          rw [hfl]
          exact Sl.of_owns ho2
        refine SEntry.row_apps hoy8 hr2 (by simp; omega) z8 fun v9 w9 h9 m9 => ?_
        have hgood9 : Jou.Good (rs' ++ [⟨1, e, 0, 0⟩]) (es ++ [e]) := hgood'.ent (by rw [he, hes]) eo (by omega)
        refine hK4 _ _ _ ⟨_, _, by simp [hes], by simp; omega, hgood9, ?_, h9, hm8.trans (app_own_mod hoy8 m9)⟩
        rw [e1]
        exact Own.mod ho1 m9 (Own.off_own hoy8 ho1 (by decide))
      · rw [bin_shr (by omega), bin_and, bin_eql]
        refine Br_i (fun _ => ?_) fun _ => ?_
        · refine callF_ret (check_ret k chain w4) ?_
          rintro _ w5 ⟨rfl, x5⟩
          have hox5 := Own.ext hox4 x5
          have hoy5 := Own.ext hoy4 x5
          have hm5 : Mod (w1.heap.size ≤ ·) w1 w5 := hm4.trans (.of_ext x5)
          have z5 := x5.size
          obtain ⟨ir, hir, hrz, hrs, hrb⟩ := Ty.info_parts Ty.SRecord_info
          refine SRecord.row_lit [chk k chain] rfl (by decide) (by decide) rfl fun v6 w6 x6 h6 _ => ?_
          have z6 := x6.size
          have hox6 := Own.ext hox5 x6
          have hoy6 := Own.ext hoy5 x6
          refine app_own2 (xs := fl SRecord.cells rs) (news := fl SRecord.cells [chk k chain]) Ty.SRecord_row hir hrz hrs hrb rfl (by decide) hox6 (Sl.of_owns h6) (fl_one SRecord.one _) (by simp; omega) (by simp; omega) (by omega) fun v7 w7 h7 m7 hbl7 => ?_
          have h7 : SRecord.Owns w1.heap.size w7 v7 (rs ++ [chk k chain]) := by
            show w7.ownsRow _ _ _ _ _ _
            rw [fl_append, List.length_append]; exact h7
          have hm7 : Mod (w1.heap.size ≤ ·) w1 w7 := (hm5.trans (.of_ext x6)).trans (app_own_mod hox6 m7)
          refine hK5 _ _ ⟨_, hgood.chk (by rw [hes]) (by omega), by simp; omega, h7, ?_, ((h4.ext x5).ext x6).mod m7 (fun hk => hgl g hk rfl), hm7, fun j hj e => ?_⟩
          · exact Own.mod hoy6 m7 (Own.off_own hox6 hoy6 (by decide))
          · rcases hbl7 j hj with h | h
            · exact hgl j h e
            · have := h4.lt; omega
        · exact hK5 _ _ ⟨rs, hgood, by omega, hox4, hoy4, h4, hm4, hgl⟩
  · have hge : l.length ≤ k := by have := dec_f hb; omega
    obtain ⟨hgf, hgk, hgp⟩ := hgood
    refine callF_ret (written_ret (fun r hr => (hgf r hr).2) (by omega) w2 (Sl.of_owns hox)) ?_
    rintro _ w3 ⟨vb, ve, vr, rfl, hbs, hes3, hrs, x3⟩
    have hfilt : rs.filter Jou.form = rs := List.filter_eq_self.2 fun r hr => (hgf r hr).1
    rw [hfilt] at hbs hes3 hrs
    have hff : ∀ r ∈ rs, Jou.form r = true := fun r hr => (hgf r hr).1
    have hfo : ∀ r ∈ rs, r.Ok := fun r hr => (hgf r hr).2
    have hal := jbytes_few rs hfo
    rw [ext4_0, ext4_1, ext4_2, ext4_3]
    have hox3 := (Sl.of_owns hox).ext x3
    have hoy3 := (Sl.of_owns hoy).ext x3
    refine join0 (fun w' => w' = w3) ?_ fun K hK => ?_
    · rintro _ w' hw
      subst w'
      refine callF_ret (jLoad_ret w3 hbs) ?_
      rintro _ w4 ⟨m, rfl, hm, x4⟩
      rw [loadV_of (by omega), Jou.load_all hff hfo] at hm ⊢
      rw [ext3_0, ext3_1, ext3_2]
      refine callF_ret (jEntries_ret (l := rs) w4 hm) ?_
      rintro _ w5 ⟨ve5, rfl, h5, x5⟩
      rw [entriesV_good hff hgk (by omega)] at h5 ⊢
      have h5 : SEntry.Row w5 ve5 es := h5
      rw [ext2_0, ext2_1]
      obtain ⟨at_, hat⟩ : ∃ a, a = cut.toNat % ((Jou.bytes rs).length + 1) := ⟨_, rfl⟩
      have hatl : at_ < (Jou.bytes rs).length + 1 := by rw [hat]; exact Nat.mod_lt _ (by omega)
      have hbs5 := (hbs.ext x4).ext x5
      rw [conv_int Ty.u16 Ty.int, i64_wrap (by omega) (by omega), hbs5.len Ty.bytes, bin_add, i64_wrap (by omega) (by omega), bin_rem (by omega), show ((Jou.bytes rs).length : Int) + 1 = (((Jou.bytes rs).length + 1 : Nat) : Int) by omega, tmod_nat hcut.1, ← hat]
      refine up_bytes hbs5 (by omega) fun v6 h6 => ?_
      refine callF_ret (jLoad_ret w5 h6) ?_
      rintro _ w7 ⟨m7, rfl, hm7, x7⟩
      obtain ⟨j, hj1, hj2, hj3⟩ := Jou.torn_exists rs at_ rs.length
      have hlt : ((Jou.bytes rs).take at_).length ≤ 200000 := by rw [List.length_take]; omega
      rw [loadV_of hlt, Jou.load_torn hff hfo hj2 hj3] at hm7 ⊢
      rw [ext3_0, ext3_1, ext3_2]
      refine callF_ret (jEntries_ret (l := rs.take j) w7 hm7) ?_
      rintro _ w8 ⟨v8, rfl, h8, x8⟩
      obtain ⟨q, hq⟩ := hgp j
      rw [entriesV_good (fun r hr => hff r (List.mem_of_mem_take hr)) hq (by rw [List.length_take]; omega)] at h8 ⊢
      have h8 : SEntry.Row w8 v8 (es.take q) := h8
      rw [ext2_0, ext2_1]
      refine gd_t ?_
      rw [bin_eql, dec_same]; refine gd_t ?_
      rw [bin_eql, dec_same]; refine gd_t ?_
      rw [bin_eql, dec_same]; refine gd_t ?_
      rw [bin_eql, dec_same]; refine gd_t ?_
      have x58 := x7.trans x8
      have hoy8 : SEntry.Row w8 y es := Sl.ext hoy3 ((x4.trans x5).trans x58)
      refine callF_ret (sameEnts_ret (a := es) (b := es) w8 (Sl.ext h5 x58) hoy8) ?_
      rintro _ w9 ⟨rfl, x9⟩
      rw [dec_same]; refine gd_t ?_
      have hq8 : SEntry.Row w9 v8 (es.take q) := Sl.ext h8 x9
      have hoy9 : SEntry.Row w9 y es := Sl.ext hoy8 x9
      rw [SEntry.row_len hq8, SEntry.row_len hoy9, bin_leq, show decide (((es.take q).length : Int) ≤ (es.length : Int)) = true by rw [decide_eq_true_iff, List.length_take]; omega]
      refine gd_t ?_
      rw [SEntry.row_len hq8]
      refine SEntry.row_upto hoy9 (k := (es.take q).length) (by rw [List.length_take]; omega) fun v10 h10 => ?_
      have et : es.take (es.take q).length = es.take q := by
        rw [List.length_take]
        rcases Nat.le_total q es.length with h | h
        · rw [Nat.min_eq_left h]
        · rw [Nat.min_eq_right h, List.take_of_length_le h, List.take_of_length_le (Nat.le_refl _)]
      rw [et] at h10
      refine callF_ret (sameEnts_ret w9 hq8 h10) ?_
      rintro _ w11 ⟨rfl, x11⟩
      exact hR _ _ ⟨by simp, x1.trans (x2.trans (x3.trans (((x4.trans x5).trans x58).trans (x9.trans x11))))⟩
    · refine join1 (fun b w4 => b = .bool false ∧ w4 = w3) ?_ fun K' hK' => ?_
      · rintro _ _ w4 hbb ⟨rfl, rfl⟩
        rw [hbb]
        exact br_f (hK _ rfl)
      · rw [un_not]
        refine gd_f ?_
        rw [SRecord.row_len hrs, SRecord.row_len hox3, bin_neq]
        exact hK' _ _ ⟨by simp, rfl⟩
end Go.Proofs.Ytahplhcijlgelaa
