/- What is known of a vehicle: the reference. -/
import Derived.Test.YtohmledhhgdgaaaGreatDoorEMshM
set_option linter.unusedVariables false
set_option linter.unusedSimpArgs false
namespace Go.Proofs.YtohmledhhgdgaaaGreatDoor
set_option maxRecDepth 100000
set_option maxHeartbeats 16000000
open Sh Go.RowKit
theorem refFits_ret {v : Int} {k : List SEntry} {s : SReport} {r : Rep.Rpt} {a : Value} (hr : Rep.okR r = true) (hi : I64 r.first) (hkl : k.length ≤ 2000) (hke : ∀ e ∈ k, e.Ok) (hiv : I64 v) (w : World) (ha : SEntry.Row w a k) (h : RepIs w s r) :
    Ret Tryz.prog 84 #[.agg s.cells.toArray, .int .i64 v, a] w fun u w' => u = .bool (Msh.fits v k r) ∧ Ext w w' := by
  refine ret_of (fun _ _ => sh_landfallref26_Fits_ok _ _ _) fun R hR => ?_
  unfold sh_landfallref26_Fits
  refine box_i fun g w1 x1 hat _ _ => ?_
  have hrow := Sl.ext ha x1
  have hre := Sl.ext h.2.2.1 x1
  obtain ⟨f1, f2, f3, f4⟩ := Msh.first_of hr hi
  have hoff : r.first - 1 = ((Msh.off r : Nat) : Int) := by unfold Msh.off; omega
  have hg : ∀ W, Ext w1 W → Has W g 0 s.cells := fun W x => has_of_at (hat.ext x)
  have no : ∀ {W : World}, Ext w1 W → ¬ Msh.Fits v k r → R (.returned (.bool false)) W := fun {W} xW hn => by
    refine hR _ _ ⟨?_, x1.trans xW⟩
    cases hb : Msh.fits v k r with
    | false => rfl
    | true => exact absurd (Msh.fits_iff.1 hb) hn
  rw [SEntry.row_len hrow]
  refine join0 (fun W => Ext w1 W ∧ r.veh = v ∧ Msh.off r ≤ k.length ∧ k.length < Msh.off r + r.ents.length) ?_ fun K hK => ?_
  · rintro _ W ⟨xW, c1, c2, c3⟩
    obtain ⟨a1, ha1, hs1⟩ := ents_upto hrow c2
    refine draw_ext fun w4 x4 => ?_
    have x14 := xW.trans x4
    refine det_read _ (fun W' x K => Ty.SReport_f3) ?_
    refine det_read (u64v s.before) (fun W' x K => load_cell Ty.u64_agg (has_at (hg W' (x14.trans x)) (d := 3) rfl rfl)) ?_
    refine det_ret (u64v (Rep.begin v)) (fun W' x => Begin_ret hiv W') ?_
    refine det_read _ (fun W' x K => Ty.SReport_f1) ?_
    refine det_read (.int .i64 s.first) (fun W' x K => load_cell Ty.int_agg (has_at (hg W' (x14.trans x)) (d := 1) rfl rfl)) ?_
    refine det_read (.int .i64 ((Msh.off r : Nat) : Int)) (fun W' x K => by rw [h.2.1, bin_sub, i64_wrap (by omega) (by omega), hoff]) ?_
    refine det_read _ (fun W' x K => hs1 W' K _) ?_
    refine det_ret (u64v (Rep.carry (Rep.begin v) (k.take (Msh.off r)))) (fun W' x => Carry_ret _ (fun e he => hke e (List.mem_of_mem_take he)) W' (Sl.ext ha1 (x14.trans x))) ?_
    intro w5 x5 _
    have x15 := x14.trans x5
    rw [u64_neq, h.2.2.2.1]
    refine Br_i (fun hb => no x15 fun hF => ?_) fun hb => ?_
    · rw [decide_eq_true hF.2.2.2.1] at hb; cases hb
    have c4 : r.before = Rep.carry (Rep.begin v) (k.take (Msh.off r)) := by simpa using hb
    rw [SReport.g_first (hg _ x15), h.2.1, bin_sub, i64_wrap (by omega) (by omega), hoff]
    refine loop1 (fun x W' => ∃ m : Nat, Msh.off r ≤ m ∧ m ≤ k.length ∧ x = .int .i64 m ∧ Ext w1 W' ∧ ∀ i (h1 : i < k.length), Msh.off r ≤ i → i < m → k[i] = r.ents[i - Msh.off r]'(by omega)) (fun x _ => k.length - (intOf x).toNat) ⟨Msh.off r, by omega, c2, rfl, x15, fun i _ h1 h2 => by omega⟩ ?_
    rintro hh _ W3 hx ⟨m, hm1, hm2, rfl, x3, heq⟩ K3 hK3
    rw [hx, bin_lss]
    refine Br_i (fun hb3 => ?_) fun hb3 => ?_
    · have hlt : m < k.length := by have := dec_t hb3; omega
      have hlt2 : m - Msh.off r < r.ents.length := by omega
      obtain ⟨p1, q1, hh1, _, hix1⟩ := SEntry.row_at hrow hlt
      obtain ⟨p2, q2, hh2, _, hix2⟩ := SEntry.row_at hre hlt2
      refine draw_ext fun w6 x6 => ?_
      have x16 := x3.trans x6
      refine det_read _ (fun W' x K => hix1 W' K _) ?_
      refine det_read _ (fun W' x K => SEntry.g_all (hh1 W' (x16.trans x))) ?_
      refine det_read _ (fun W' x K => Ty.SReport_f2) ?_
      refine det_read s.ents.val (fun W' x K => load_cell Ty.ents_agg (has_at (hg W' (x16.trans x)) (d := 2) rfl rfl)) ?_
      refine det_read _ (fun W' x K => Ty.SReport_f1) ?_
      refine det_read (.int .i64 s.first) (fun W' x K => load_cell Ty.int_agg (has_at (hg W' (x16.trans x)) (d := 1) rfl rfl)) ?_
      refine det_read (.int .i64 ((m : Int) - r.first)) (fun W' x K => by rw [h.2.1, bin_sub, i64_wrap (by omega) (by omega)]) ?_
      refine det_read (.int .i64 ((m - Msh.off r : Nat) : Int)) (fun W' x K => by rw [bin_add, i64_wrap (by omega) (by omega), show (m : Int) - r.first + 1 = ((m - Msh.off r : Nat) : Int) by omega]) ?_
      refine det_read _ (fun W' x K => hix2 W' K _) ?_
      refine det_read _ (fun W' x K => SEntry.g_all (hh2 W' (x16.trans x))) ?_
      intro w7 x7 _
      have x17 := x16.trans x7
      rw [SEntry.neq]
      refine Br_i (fun hb4 => no x17 fun hF => ?_) fun hb4 => ?_
      · have hne : ¬ k[m] = r.ents[m - Msh.off r] := by simpa using hb4
        have h5 := hF.2.2.2.2.1
        have h6 : (k.drop (Msh.off r))[m - Msh.off r]? = (r.ents.take (k.length - Msh.off r))[m - Msh.off r]? := by rw [h5]
        rw [List.getElem?_drop, List.getElem?_take, if_pos (by omega), show Msh.off r + (m - Msh.off r) = m by omega, List.getElem?_eq_getElem hlt, List.getElem?_eq_getElem hlt2] at h6
        exact hne (Option.some.inj h6)
      · have he : k[m] = r.ents[m - Msh.off r] := by simpa using hb4
        rw [bin_add, i64_wrap (by omega) (by omega)]
        refine hK3 _ _ ⟨m + 1, by omega, by omega, by simp, x17, fun i h1 h2 h3 => ?_⟩ (by simp [intOf]; omega)
        by_cases him : i < m
        · exact heq i h1 h2 him
        · have : i = m := by omega
          subst this; exact he
    · have hme : m = k.length := by have := dec_f hb3; omega
      have c5 : k.drop (Msh.off r) = r.ents.take (k.length - Msh.off r) := by
        apply List.ext_getElem?
        intro i
        rw [List.getElem?_drop, List.getElem?_take]
        split
        · rename_i hi2
          rw [List.getElem?_eq_getElem (by omega), List.getElem?_eq_getElem (by omega), heq (Msh.off r + i) (by omega) (by omega) (by omega)]
          congr 2
          omega
        · rw [List.getElem?_eq_none (by omega)]
      refine draw_ext fun w7 x7 => ?_
      have x17 := x3.trans x7
      refine det_read _ (fun W' x K => bin_eql) ?_
      refine Gd_i (fun hb2 => ?_) fun hb2 => ?_
      · have hk0 : 0 < k.length := by have := dec_f hb2; omega
        obtain ⟨p1, q1, hh1, _, hix1⟩ := SEntry.row_at hre (j := k.length - Msh.off r) (by omega)
        obtain ⟨p2, q2, hh2, _, hix2⟩ := SEntry.row_at hrow (j := k.length - 1) (by omega)
        refine det_read _ (fun W' x K => Ty.SReport_f2) ?_
        refine det_read s.ents.val (fun W' x K => load_cell Ty.ents_agg (has_at (hg W' (x17.trans x)) (d := 2) rfl rfl)) ?_
        refine det_read _ (fun W' x K => Ty.SReport_f1) ?_
        refine det_read (.int .i64 s.first) (fun W' x K => load_cell Ty.int_agg (has_at (hg W' (x17.trans x)) (d := 1) rfl rfl)) ?_
        refine det_read (.int .i64 ((k.length : Int) - r.first)) (fun W' x K => by rw [h.2.1, bin_sub, i64_wrap (by omega) (by omega)]) ?_
        refine det_read (.int .i64 ((k.length - Msh.off r : Nat) : Int)) (fun W' x K => by rw [bin_add, i64_wrap (by omega) (by omega), show (k.length : Int) - r.first + 1 = ((k.length - Msh.off r : Nat) : Int) by omega]) ?_
        refine det_read _ (fun W' x K => hix1 W' K _) ?_
        refine det_read _ (fun W' x K => Ty.SEntry_f1) ?_
        refine det_read (.int .i64 (r.ents[k.length - Msh.off r]'(by omega)).time) (fun W' x K => load_cell Ty.int_agg (has_at (hh1 W' (x17.trans x)) (d := 1) rfl rfl)) ?_
        refine det_read (.int .i64 ((k.length - 1 : Nat) : Int)) (fun W' x K => by rw [bin_sub, i64_wrap (by omega) (by omega), show (k.length : Int) - 1 = ((k.length - 1 : Nat) : Int) by omega]) ?_
        refine det_read _ (fun W' x K => hix2 W' K _) ?_
        refine det_read _ (fun W' x K => Ty.SEntry_f1) ?_
        refine det_read (.int .i64 (k[k.length - 1]'(by omega)).time) (fun W' x K => load_cell Ty.int_agg (has_at (hh2 W' (x17.trans x)) (d := 1) rfl rfl)) ?_
        intro w8 x8 _
        rw [bin_geq]
        refine hR _ _ ⟨?_, x1.trans (x17.trans x8)⟩
        congr 1
        have e1 : Rep.el k (k.length - 1) = k[k.length - 1]'(by omega) := Rep.el_of (by omega)
        have e2 : Rep.el r.ents (k.length - Msh.off r) = r.ents[k.length - Msh.off r]'(by omega) := Rep.el_of (by omega)
        by_cases ht : (k[k.length - 1]'(by omega)).time ≤ (r.ents[k.length - Msh.off r]'(by omega)).time
        · rw [decide_eq_true ht, eq_comm, Msh.fits_iff]
          exact ⟨c1, c2, c3, c4, c5, .inr (by rw [e1, e2]; exact ht)⟩
        · rw [decide_eq_false ht]
          cases hb : Msh.fits v k r with
          | false => rfl
          | true =>
            have hF := (Msh.fits_iff.1 hb).2.2.2.2.2
            rw [e1, e2] at hF
            rcases hF with hF | hF
            · omega
            · exact absurd hF ht
      · intro w8 x8 _
        refine hR _ _ ⟨?_, x1.trans (x17.trans x8)⟩
        congr 1
        rw [eq_comm, Msh.fits_iff]
        exact ⟨c1, c2, c3, c4, c5, .inl (by have := dec_t (show decide ((k.length : Int) = 0) = true from hb2); omega)⟩
  · refine join1 (fun x W => Ext w1 W ∧ ∃ c, x = .bool c ∧ (c = true → ¬ Msh.Fits v k r) ∧ (c = false → r.veh = v ∧ Msh.off r ≤ k.length ∧ k.length < Msh.off r + r.ents.length)) ?_ fun K2 hK2 => ?_
    · rintro h5 _ W hx ⟨xW, c, rfl, hc1, hc2⟩
      rw [hx]
      exact Br_i (fun hc => no xW (hc1 hc)) fun hc => hK _ ⟨xW, hc2 hc⟩
    have hgw := hg w1 (Ext.refl _)
    rw [SReport.g_veh hgw, bin_neq, h.1]
    refine Gd_i (fun hb => ?_) fun hb => ?_
    · have c1 : r.veh = v := by simpa using hb
      rw [SReport.g_first hgw, h.2.1, bin_sub, i64_wrap (by omega) (by omega), bin_gtr, hoff]
      refine Gd_i (fun hb2 => ?_) fun hb2 => ?_
      · have c2 : Msh.off r ≤ k.length := by have := dec_f hb2; omega
        rw [SReport.g_first hgw, h.2.1, bin_sub, i64_wrap (by omega) (by omega), SReport.g_ents hgw, SEntry.row_len hre, bin_add, i64_wrap (by omega) (by omega), bin_leq]
        refine hK2 _ _ ⟨Ext.refl _, _, rfl, fun hc hF => ?_, fun hc => ⟨c1, c2, by have := dec_f hc; omega⟩⟩
        have := dec_t hc
        have := hF.2.2.1
        omega
      · exact hK2 _ _ ⟨Ext.refl _, _, rfl, fun _ hF => by have := hF.2.1; have := dec_t (by simpa using hb2); omega, fun hc => by cases hc⟩
    · refine hK2 _ _ ⟨Ext.refl _, _, rfl, fun _ hF => ?_, fun hc => by cases hc⟩
      rw [decide_eq_true hF.1] at hb; cases hb
theorem refOf_ret {a : Value} {l : List Rep.Rpt} {v : Int} (hok : ∀ r ∈ l, RepOk r) (hv : ∀ r ∈ l, Rep.okR r = true) (hiv : I64 v) (w : World) (ha : RepsIs w a l) :
    Ret Tryz.prog 50 #[a, .int .i64 v] w fun u w' => SEntry.Row w' u (Msh.known v l) ∧ (∀ e ∈ Msh.known v l, e.Ok) ∧ Ext w w' := by
  refine ret_of (fun _ _ => sh_landfallref26_Of_ok _ _) fun R hR => ?_
  unfold sh_landfallref26_Of
  have hle := ha.le
  have hgood : ∀ r ∈ l, Rep.okR r = true ∧ I64 r.first := fun r hr => ⟨hv r hr, (hok r hr).2.1⟩
  have hlen : ∀ {k}, Msh.Grows v l k (Msh.known v l) → k.length ≤ 2000 := fun hG => Nat.le_trans hG.len (Rep.follows_iff.1 (Msh.known_follows hgood)).1
  refine loop2 (fun y x W => ∃ (m : List SEntry) (i : Nat), i ≤ l.length ∧ x = .int .i64 i ∧ Ext w W ∧ SEntry.Owns w.heap.size W y m ∧ (∀ e ∈ m, e.Ok) ∧ (∀ r ∈ l.take i, Msh.fits v m r = false) ∧ Msh.Grows v l m (Msh.known v l)) (fun y x _ => (2001 - slen y) * (l.length + 1) + (l.length - (intOf x).toNat))
    ⟨[], 0, by omega, rfl, Ext.refl _, SEntry.owns_nil _ _, by simp, by simp, Msh.known_grows v l⟩ ?_
  rintro hh _ _ W hy hx ⟨m, i, hi, rfl, xW, hown, hme, hbef, hG⟩ K hK
  have hml := hlen hG
  rw [(ha.ext xW).len, hx, bin_lss]
  refine Br_i (fun hb => ?_) fun hb => ?_
  · have hlt : i < l.length := by have := dec_t hb; omega
    obtain ⟨pb, po, sr, hsr, hhr, hixr⟩ := ha.at_ hlt
    have hmem := List.getElem_mem hlt
    obtain ⟨hgr, hgf⟩ := hgood _ hmem
    obtain ⟨f1, f2, f3, f4⟩ := Msh.first_of hgr hgf
    rw [hixr, SReport.g_all (hhr W xW), hy]
    refine callF_ret (refFits_ret hgr hgf hml hme hiv W (Sl.of_owns hown) (hsr.ext xW)) ?_
    rintro _ w1 ⟨rfl, x1⟩
    have xW1 := xW.trans x1
    rw [un_not]
    refine Br_i (fun hb2 => ?_) fun hb2 => ?_
    · rw [bin_add, i64_wrap (by omega) (by omega)]
      refine hK _ _ _ ⟨m, i + 1, by omega, by simp, xW1, Own.ext hown x1, hme, fun r hr => ?_, hG⟩ (by simp [intOf]; omega)
      rw [List.take_succ_eq_append_getElem hlt, List.mem_append, List.mem_singleton] at hr
      rcases hr with hr | rfl
      · exact hbef r hr
      · simpa using hb2
    · have hfit : Msh.fits v m l[i] = true := by simpa using hb2
      have hF := Msh.fits_iff.1 hfit
      have hG2 := Grows_find hG hlt hfit hbef
      obtain ⟨q1, q2, q3, _⟩ := id hF
      have hent := (hok _ hmem).2.2.1
      generalize hr : l[i] = r at *
      have hoff : r.first - 1 = ((Msh.off r : Nat) : Int) := by unfold Msh.off; omega
      obtain ⟨a1, ha1, hs1⟩ := ents_drop hsr.2.2.1 (k := m.length - Msh.off r) (by omega)
      refine draw_ext fun w4 x4 => ?_
      have x14 := xW1.trans x4
      refine det_read _ (fun W' x K => hixr W' K _) ?_
      refine det_read _ (fun W' x K => Ty.SReport_f2) ?_
      refine det_read sr.ents.val (fun W' x K => load_cell Ty.ents_agg (has_at (hhr W' (x14.trans x)) (d := 2) rfl rfl)) ?_
      refine det_read _ (fun W' x K => SEntry.row_len (Sl.ext (Sl.of_owns hown) (x1.trans (x4.trans x)))) ?_
      refine det_read _ (fun W' x K => hixr W' K _) ?_
      refine det_read _ (fun W' x K => Ty.SReport_f1) ?_
      refine det_read (.int .i64 sr.first) (fun W' x K => load_cell Ty.int_agg (has_at (hhr W' (x14.trans x)) (d := 1) rfl rfl)) ?_
      refine det_read (.int .i64 ((m.length : Int) - r.first)) (fun W' x K => by rw [hsr.2.1, bin_sub, i64_wrap (by omega) (by omega)]) ?_
      refine det_read (.int .i64 ((m.length - Msh.off r : Nat) : Int)) (fun W' x K => by rw [bin_add, i64_wrap (by omega) (by omega), show (m.length : Int) - r.first + 1 = ((m.length - Msh.off r : Nat) : Int) by omega]) ?_
      refine det_read _ (fun W' x K => hs1 W' K _) ?_
      intro w5 x5 _
      have x15 := x14.trans x5
      have hml2 := hlen hG2
      have hgg := Msh.grown_gt hF
      have ho5 := Own.ext hown (x1.trans (x4.trans x5))
      refine SEntry.row_apps ho5 (Sl.ext ha1 x15) (by rw [List.length_drop]; omega) x15.size fun y w6 ho6 m6 => ?_
      have x16 : Ext w w6 := ((Mod.of_ext x15 : Mod (w.heap.size ≤ ·) w w5).trans (m6.mono fun q _ hq => (Own.block ho5 hq).1)).new
      refine hK _ _ _ ⟨Msh.grown m r, 0, by omega, rfl, x16, ho6, fun e he => ?_, by simp, hG2⟩ ?_
      · unfold Msh.grown at he
        rw [List.mem_append] at he
        rcases he with he | he
        · exact hme e he
        · exact hent e (List.mem_of_mem_drop he)
      · have e1 : ∀ {u : Value} {W : World} {k : List SEntry}, SEntry.Owns w.heap.size W u k → slen u = k.length := fun h => by
          obtain ⟨a, c, rfl, _⟩ := Sl.of_owns h; rfl
        have hm' := e1 (k := Msh.grown m r) ho6
        rw [hm', e1 hown]
        have hA : (2001 - (Msh.grown m r).length) + 1 ≤ 2001 - m.length := by omega
        have := Nat.mul_le_mul_right (l.length + 1) hA
        rw [Nat.add_mul, Nat.one_mul] at this
        simp only [intOf]
        omega
  · have hge : i = l.length := by have := dec_f hb; omega
    subst hge
    rw [List.take_length] at hbef
    have hkk := Grows_none hG hbef
    rw [hy]
    exact hR _ _ ⟨by rw [hkk]; exact Sl.of_owns hown, by rw [hkk]; exact hme, xW⟩
theorem refKnown_ret {s : SBox} {b : Int × List Rep.Rpt} {v : Int} (hok : ∀ r ∈ b.2, RepOk r) (hiv : I64 v) (w : World) (h : BoxIs w s b) : Ret Tryz.prog 19 #[.agg s.cells.toArray, .int .i64 v] w (KnownQ b v w) := by
  refine ret_of (fun _ _ => sh_landfallref26_Known_ok _ _) fun R hR => ?_
  unfold sh_landfallref26_Known
  refine box_i fun bx w1 x1 hatx _ _ => ?_
  rw [SBox.g_all (has_of_at hatx)]
  refine callF_ret (refBoxValid_ret w1 (h.ext x1)) ?_
  rintro _ w2 ⟨rfl, x2⟩
  have x02 := x1.trans x2
  refine join0 (fun W => W = w2 ∧ bvalid b = true ∧ Rep.isID v = true) ?_ fun K hK => ?_
  · rintro _ W ⟨rfl, va, vi⟩
    have hV := bvalid_iff.1 va
    rw [SBox.g_reps (has_of_at (hatx.ext x2))]
    refine callF_ret (refOf_ret hok hV.2.2.1 hiv W (h.2.ext x02)) ?_
    rintro u w3 ⟨hrow, hkok, x3⟩
    refine callF_ret (Begin_ret hiv w3) ?_
    rintro _ w4 ⟨rfl, x4⟩
    refine callF_ret (Carry_ret _ hkok w4 (Sl.ext hrow x4)) ?_
    rintro _ w5 ⟨rfl, x5⟩
    refine hR _ _ ⟨u, ?_, ?_, x02.trans (x3.trans (x4.trans x5))⟩
    · rw [knownV_ok hV vi]
    · rw [knownV_ok hV vi]; exact Sl.ext hrow (x4.trans x5)
  · refine join1 (fun x W => W = w2 ∧ ∃ c, x = .bool c ∧ (c = false → bvalid b = true ∧ Rep.isID v = true) ∧ (c = true → bvalid b = false ∨ Rep.isID v = false)) ?_ fun K3 hK3 => ?_
    · rintro h5 _ W hx ⟨rfl, c, rfl, hc1, hc2⟩
      rw [hx]
      refine Br_i (fun hc => ?_) fun hc => hK _ ⟨rfl, hc1 hc⟩
      have e : knownV b v = ([], 0, 1) := by unfold knownV; rw [if_pos (hc2 hc)]
      refine hR _ _ ⟨.slice none 0 0, ?_, ?_, x02⟩
      · rw [e]; rfl
      · rw [e]; exact SEntry.row_nil _
    rw [un_not]
    refine Gd_i (fun hbi => ?_) fun hbi => ?_
    · have va : bvalid b = true := by simpa using hbi
      rw [bin_lss]
      refine Gd_i (fun hb1 => ?_) fun hb1 => ?_
      · rw [bin_gtr]
        refine hK3 _ _ ⟨rfl, _, rfl, fun hc => ⟨va, ?_⟩, fun hc => .inr ?_⟩
        · unfold Rep.isID; have := dec_f hb1; have := dec_f hc; exact decide_eq_true (by omega)
        · unfold Rep.isID; have := dec_t hc; exact decide_eq_false (by omega)
      · refine hK3 _ _ ⟨rfl, _, rfl, fun hc => (by cases hc), fun hc => .inr ?_⟩
        unfold Rep.isID; have := dec_t (by simpa using hb1); exact decide_eq_false (by omega)
    · exact hK3 _ _ ⟨rfl, _, rfl, fun h => (by cases h), fun _ => .inl (by simpa using hbi)⟩
end Go.Proofs.YtohmledhhgdgaaaGreatDoor
