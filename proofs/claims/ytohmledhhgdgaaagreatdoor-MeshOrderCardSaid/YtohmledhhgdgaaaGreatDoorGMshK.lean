/- What is known of a vehicle: the joined entries in memory; fits. -/
import Derived.Test.YtohmledhhgdgaaaGreatDoorGMshE
set_option linter.unusedVariables false
set_option linter.unusedSimpArgs false
namespace Go.Proofs.YtohmledhhgdgaaaGreatDoor
set_option maxRecDepth 100000
set_option maxHeartbeats 8000000
open Sh Go.RowKit
def uv (l : List (BitVec 64)) : List Value := l.map u64v
namespace Ty
theorem u64s_agg (w : World) : (isAgg 80).run Tryz.prog w = .ok false w := by kernel_rfl
theorem join_agg (w : World) : (isAgg 78).run Tryz.prog w = .ok false w := by kernel_rfl
end Ty
theorem u64_at {w : World} {v : Value} {l : List (BitVec 64)} (hv : Sl w 1 v l.length (uv l)) {j : Nat} (hj : j < l.length) :
    ∃ p, (∀ (w1 : World) (K : Value → World → Prop) (X : List PanicEntry → World → Prop), DoV Tryz.prog (Instr.indexAt 80 v (.int .i64 j)) w1 K X = K p w1) ∧
      ∀ (w1 : World), Ext w w1 → ∀ (K : Value → World → Prop) (X : List PanicEntry → World → Prop), DoV Tryz.prog (Instr.loadAt 26 p) w1 K X = K (u64v l[j]) w1 := by
  obtain ⟨ii, hii, _, his, _⟩ := Ty.info_parts Ty.u64_info
  obtain ⟨b, o, hcell, hb, hix⟩ := hv.index Ty.u64s hii his (k := .i64) hj (by decide)
  refine ⟨_, hix, fun w1 h1 K X => ?_⟩
  refine load_cell Ty.u64_agg (cell_ext ?_ hb h1)
  rw [Nat.mul_one]
  exact hcell j _ (by simp [uv, hj])
theorem u64_at2 {w : World} {v : Value} {l : List (BitVec 64)} (hv : Sl w 1 v l.length (uv l)) {j : Nat} (hj : j < l.length) :
    ∃ p, (∀ (w1 : World) (K : Value → World → Prop) (X : List PanicEntry → World → Prop), DoV Tryz.prog (Instr.indexAt 80 v (.int .i64 j)) w1 K X = K p w1) ∧
      ∀ (w1 : World), Sl w1 1 v l.length (uv l) → ∀ (K : Value → World → Prop) (X : List PanicEntry → World → Prop), DoV Tryz.prog (Instr.loadAt 26 p) w1 K X = K (u64v l[j]) w1 := by
  obtain ⟨p, h1, h2⟩ := u64_at hv hj
  refine ⟨p, h1, fun w1 hv1 K X => ?_⟩
  obtain ⟨p', h1', h2'⟩ := u64_at hv1 hj
  have e := (h1 w (fun a _ => a = p') fun _ _ => False).symm.trans (h1' w (fun a _ => a = p') fun _ _ => False)
  have e : p = p' := e.mpr rfl
  subst e
  exact h2' w1 (Ext.refl _) K X
theorem ents_drop {w : World} {v : Value} {l : List SEntry} (h : SEntry.Row w v l) {k : Nat} (hk : k ≤ l.length) : ∃ v', SEntry.Row w v' (l.drop k) ∧ ∀ (w1 : World) (K : Value → World → Prop) (X : List PanicEntry → World → Prop), DoV Tryz.prog (Instr.sliceAt 25 v (some (.int .i64 k)) none none) w1 K X = K v' w1 := by
  obtain ⟨i, hi, hz, hs, hby⟩ := Ty.info_parts Ty.SEntry_info
  have he := elem_of Ty.SEntry_row
  obtain ⟨a, cap, rfl, h1, h2, h3, h4⟩ := h
  refine ⟨sliced a k l.length cap 12, ?_, fun w1 K X => DoV_ok ?_⟩
  · have := sliced_sl (w := w) (m := cap) (by decide) ⟨a, cap, rfl, h1, h2, h3, h4⟩ hk (Nat.le_refl l.length) h1 (Nat.le_refl _)
    rw [List.take_of_length_le (by omega), fl_drop SEntry.len] at this
    rw [SEntry.Row, List.length_drop]; exact this
  · rw [run_sliceAt_slice w1 _ _ _ _ _ (by rw [he]; exact Ty.SEntry_row), run_slice_l w1 _ a _ cap (by rw [he]; exact Ty.SEntry_row) .i64 k (by omega) (by omega), he]
    simp [sizeOf, typeInfo, hi, hs]
def chs (v : Int) (k : List SEntry) : List (BitVec 64) := (List.range (k.length + 1)).map fun i => Rep.carry (Rep.begin v) (k.take i)
theorem chs_len (v : Int) (k : List SEntry) : (chs v k).length = k.length + 1 := by simp [chs]
theorem chs_get {v : Int} {k : List SEntry} {i : Nat} (h : i ≤ k.length) : (chs v k)[i]'(by rw [chs_len]; omega) = Rep.carry (Rep.begin v) (k.take i) := by simp [chs]
theorem chs_snoc {v : Int} {k : List SEntry} {e : SEntry} : chs v (k ++ [e]) = chs v k ++ [Dig.next (Rep.carry (Rep.begin v) k) (Rep.eints e)] := by
  unfold chs
  rw [List.length_append, List.length_singleton, List.range_succ, List.map_append]
  congr 1
  · refine List.map_congr_left fun i hi => ?_
    have := List.mem_range.1 hi
    rw [List.take_append_of_le_length (by omega)]
  · simp only [List.map_cons, List.map_nil]
    rw [List.take_of_length_le (by simp), Rep.carry_append, Rep.carry_one]
def KAt (base jb : Nat) (v : Int) (k : List SEntry) (W : World) (sj : SJoin) : Prop := sj.veh = v ∧ At W jb (.cells sj.cells.toArray 82 (0, 0)) ∧ SEntry.Owns base W sj.ents.val k ∧ W.ownsRow base 26 1 sj.chains.val (chs v k).length (uv (chs v k))
theorem KAt.ext {base jb : Nat} {v : Int} {k : List SEntry} {W W' : World} {sj : SJoin} (h : KAt base jb v k W sj) (x : Ext W W') : KAt base jb v k W' sj := ⟨h.1, h.2.1.ext x, Own.ext h.2.2.1 x, Own.ext h.2.2.2 x⟩
theorem entEqual_ret {x y : Value} {l m : List SEntry} (w : World) (hx : SEntry.Row w x l) (hy : SEntry.Row w y m) : Ret Tryz.prog 115 #[x, y] w fun r w' => r = .bool (decide (l = m)) ∧ Ext w w' := by
  refine ret_of (fun _ _ => sh_slices_Equal___api_Entry_api_Entry__ok _ _) fun R hR => ?_
  unfold sh_slices_Equal___api_Entry_api_Entry_
  have hle := hx.le
  rw [SEntry.row_len hx, SEntry.row_len hy, bin_neq]
  refine Br_i (fun hb => ?_) fun hb => ?_
  · have : ¬ (l.length : Int) = m.length := by simpa using hb
    exact hR _ _ ⟨by rw [decide_eq_false (fun e => this (by rw [e]))], Ext.refl _⟩
  · have hlm : (l.length : Int) = m.length := by simpa using hb
    rw [SEntry.row_len hx]
    refine loop1 (fun x W => ∃ k : Nat, k ≤ l.length ∧ x = .int .i64 k ∧ Ext w W ∧ l.take k = m.take k) (fun x _ => l.length - (intOf x).toNat) ⟨0, by omega, rfl, Ext.refl _, by simp⟩ ?_
    rintro h _ W hz ⟨k, hk, rfl, xW, heq⟩ K hK
    rw [hz, bin_lss]
    refine Br_i (fun hb => ?_) fun hb => ?_
    · have hlt : k < l.length := by have := dec_t hb; omega
      have hlt2 : k < m.length := by omega
      obtain ⟨b, o, hhas, _, hix⟩ := SEntry.row_at hx hlt
      obtain ⟨b2, o2, hhas2, _, hix2⟩ := SEntry.row_at hy hlt2
      refine draw_ext fun w2 x2 => ?_
      refine det_read _ (fun w3 x3 K => hix w3 K _) ?_
      refine det_read _ (fun w3 x3 K => SEntry.g_all (hhas w3 (xW.trans (x2.trans x3)))) ?_
      refine det_read _ (fun w3 x3 K => hix2 w3 K _) ?_
      refine det_read _ (fun w3 x3 K => SEntry.g_all (hhas2 w3 (xW.trans (x2.trans x3)))) ?_
      intro w3 x3 _
      have xx := xW.trans (x2.trans x3)
      rw [SEntry.neq]
      refine Br_i (fun hb2 => ?_) fun hb2 => ?_
      · have hne : ¬ l[k] = m[k] := by simpa using hb2
        refine hR _ _ ⟨?_, xx⟩
        rw [decide_eq_false]
        rintro rfl
        exact hne rfl
      · have he : l[k] = m[k] := by simpa using hb2
        rw [bin_add, i64_wrap (by omega) (by omega)]
        refine hK _ _ ⟨k + 1, by omega, by simp, xx, ?_⟩ (by simp [intOf]; omega)
        rw [List.take_succ_eq_append_getElem hlt, List.take_succ_eq_append_getElem hlt2, heq, he]
    · have hge : l.length ≤ k := by have := dec_f hb; omega
      rw [List.take_of_length_le hge, List.take_of_length_le (by omega)] at heq
      exact hR _ _ ⟨by rw [heq, decide_eq_true rfl], xW⟩
theorem mfits_ret {base jb : Nat} {v : Int} {k : List SEntry} {sj : SJoin} {s : SReport} {r : Rep.Rpt} (hr : Rep.okR r = true) (hi : I64 r.first) (hkl : k.length ≤ 2000) (w : World) (hk : KAt base jb v k w sj) (h : RepIs w s r) :
    Ret Tryz.prog 80 #[.pointer (some ⟨jb, 0, none⟩), .agg s.cells.toArray] w fun u w' => u = .bool (Msh.fits v k r) ∧ Ext w w' := by
  refine ret_of (fun _ _ => sh_mesh_joined_fits_ok _ _) fun R hR => ?_
  unfold sh_mesh_joined_fits
  refine box_i fun g w1 x1 hat _ _ => ?_
  obtain ⟨ev, hj, hents, hch⟩ := hk.ext x1
  have hrow := Sl.of_owns hents
  have hcrow := Sl.of_owns hch
  have hre := Sl.ext h.2.2.1 x1
  obtain ⟨f1, f2, f3, f4⟩ := Msh.first_of hr hi
  have hoff : r.first - 1 = ((Msh.off r : Nat) : Int) := by unfold Msh.off; omega
  have hg : ∀ W, Ext w1 W → Has W g 0 s.cells := fun W x => has_of_at (hat.ext x)
  have hgj : ∀ W, Ext w1 W → Has W jb 0 sj.cells := fun W x => has_of_at (hj.ext x)
  have no : ∀ {W : World}, Ext w1 W → ¬ Msh.Fits v k r → R (.returned (.bool false)) W := fun {W} xW hn => by
    refine hR _ _ ⟨?_, x1.trans xW⟩
    cases hb : Msh.fits v k r with
    | false => rfl
    | true => exact absurd (Msh.fits_iff.1 hb) hn
  refine draw_ext fun w2 x2 => ?_
  refine det_read _ (fun W' x K => Ty.SReport_f1) ?_
  refine det_read (.int .i64 s.first) (fun W' x K => load_cell Ty.int_agg (has_at (hg W' (x2.trans x)) (d := 1) rfl rfl)) ?_
  refine det_read (.int .i64 ((Msh.off r : Nat) : Int)) (fun W' x K => by rw [h.2.1, bin_sub, i64_wrap (by omega) (by omega), hoff]) ?_
  refine det_read _ (fun W' x K => nil_ptr) ?_
  refine det_read _ (fun W' x K => Ty.SJoin_f1) ?_
  refine det_read sj.ents.val (fun W' x K => load_cell Ty.ents_agg (has_at (hgj W' (x2.trans x)) (d := 1) rfl rfl)) ?_
  refine det_read _ (fun W' x K => SEntry.row_len (Sl.ext hrow (x2.trans x))) ?_
  intro w3 x3 _
  have x13 := x2.trans x3
  refine join0 (fun W => Ext w1 W ∧ r.veh = v ∧ Msh.off r ≤ k.length ∧ k.length < Msh.off r + r.ents.length ∧ r.before = Rep.carry (Rep.begin v) (k.take (Msh.off r))) ?_ fun K hK => ?_
  · rintro _ W ⟨xW, c1, c2, c3, c4⟩
    obtain ⟨a1, ha1, hs1⟩ := ents_drop hrow c2
    obtain ⟨a2, ha2, hs2⟩ := ents_upto hre (k := k.length - Msh.off r) (by omega)
    refine draw_ext fun w4 x4 => ?_
    have x14 := xW.trans x4
    refine det_read _ (fun W' x K => nil_ptr) ?_
    refine det_read _ (fun W' x K => Ty.SJoin_f1) ?_
    refine det_read sj.ents.val (fun W' x K => load_cell Ty.ents_agg (has_at (hgj W' (x14.trans x)) (d := 1) rfl rfl)) ?_
    refine det_read _ (fun W' x K => hs1 W' K _) ?_
    refine det_read _ (fun W' x K => Ty.SReport_f2) ?_
    refine det_read s.ents.val (fun W' x K => load_cell Ty.ents_agg (has_at (hg W' (x14.trans x)) (d := 2) rfl rfl)) ?_
    refine det_read (.int .i64 ((k.length - Msh.off r : Nat) : Int)) (fun W' x K => by rw [bin_sub, i64_wrap (by omega) (by omega), show (k.length : Int) - (Msh.off r : Nat) = ((k.length - Msh.off r : Nat) : Int) by omega]) ?_
    refine det_read _ (fun W' x K => hs2 W' K _) ?_
    intro w5 x5 _
    have x15 := x14.trans x5
    refine callF_ret (entEqual_ret w5 (Sl.ext ha1 x15) (Sl.ext ha2 x15)) ?_
    rintro _ w6 ⟨rfl, x6⟩
    have x16 := x15.trans x6
    rw [un_not]
    refine Br_i (fun hb => no x16 fun hF => ?_) fun hb => ?_
    · have := hF.2.2.2.2.1
      rw [decide_eq_true this] at hb; cases hb
    have c5 : k.drop (Msh.off r) = r.ents.take (k.length - Msh.off r) := of_decide_eq_true (by simpa using hb)
    refine draw_ext fun w7 x7 => ?_
    have x17 := x16.trans x7
    refine det_read _ (fun W' x K => bin_eql) ?_
    refine Gd_i (fun hb2 => ?_) fun hb2 => ?_
    · have hk0 : 0 < k.length := by have := dec_f hb2; omega
      obtain ⟨p1, q1, hh1, _, hix1⟩ := SEntry.row_at hre (j := k.length - Msh.off r) (by omega)
      obtain ⟨p2, q2, hh2, _, hix2⟩ := SEntry.row_at hrow (j := k.length - 1) (by omega)
      refine det_read _ (fun W' x K => Ty.SReport_f2) ?_
      refine det_read s.ents.val (fun W' x K => load_cell Ty.ents_agg (has_at (hg W' (x17.trans x)) (d := 2) rfl rfl)) ?_
      refine det_read (.int .i64 ((k.length - Msh.off r : Nat) : Int)) (fun W' x K => by rw [bin_sub, i64_wrap (by omega) (by omega), show (k.length : Int) - (Msh.off r : Nat) = ((k.length - Msh.off r : Nat) : Int) by omega]) ?_
      refine det_read _ (fun W' x K => hix1 W' K _) ?_
      refine det_read _ (fun W' x K => Ty.SEntry_f1) ?_
      refine det_read (.int .i64 (r.ents[k.length - Msh.off r]'(by omega)).time) (fun W' x K => load_cell Ty.int_agg (has_at (hh1 W' (x17.trans x)) (d := 1) rfl rfl)) ?_
      refine det_read _ (fun W' x K => nil_ptr) ?_
      refine det_read _ (fun W' x K => Ty.SJoin_f1) ?_
      refine det_read sj.ents.val (fun W' x K => load_cell Ty.ents_agg (has_at (hgj W' (x17.trans x)) (d := 1) rfl rfl)) ?_
      refine det_read (.int .i64 ((k.length - 1 : Nat) : Int)) (fun W' x K => by rw [bin_sub, i64_wrap (by omega) (by omega), show (k.length : Int) - 1 = ((k.length - 1 : Nat) : Int) by omega]) ?_
      refine det_read _ (fun W' x K => hix2 W' K _) ?_
      refine det_read _ (fun W' x K => Ty.SEntry_f1) ?_
      refine det_read (.int .i64 (k[k.length - 1]'(by omega)).time) (fun W' x K => load_cell Ty.int_agg (has_at (hh2 W' (x17.trans x)) (d := 1) rfl rfl)) ?_
      intro w8 x8 _
      rw [bin_geq]
      refine hR _ _ ⟨?_, x1.trans (x17.trans x8)⟩
      congr 1
      have e1 : Rep.el k (k.length - 1) = k[k.length - 1]'(by omega) := Rep.el_of (by omega)
      have e2 : Rep.el r.ents (k.length - Msh.off r) = r.ents[k.length - Msh.off r]'(by omega) := Rep.el_of (by omega)
      by_cases ht : (k[k.length - 1]'(by omega)).time ≤ (r.ents[k.length - Msh.off r]'(by omega)).time
      · rw [decide_eq_true ht, eq_comm, Msh.fits_iff]
        exact ⟨c1, c2, c3, c4, c5, .inr (by rw [e1, e2]; exact ht)⟩
      · rw [decide_eq_false ht]
        cases hb : Msh.fits v k r with
        | false => rfl
        | true =>
          have hF := (Msh.fits_iff.1 hb).2.2.2.2.2
          rw [e1, e2] at hF
          rcases hF with hF | hF
          · omega
          · exact absurd hF ht
    · intro w8 x8 _
      refine hR _ _ ⟨?_, x1.trans (x17.trans x8)⟩
      congr 1
      rw [eq_comm, Msh.fits_iff]
      exact ⟨c1, c2, c3, c4, c5, .inl (by have := dec_t (show decide ((k.length : Int) = 0) = true from hb2); omega)⟩
  · refine join1 (fun x W => Ext w1 W ∧ ∃ c, x = .bool c ∧ (c = true → ¬ Msh.Fits v k r) ∧ (c = false → r.veh = v ∧ Msh.off r ≤ k.length ∧ k.length < Msh.off r + r.ents.length ∧ r.before = Rep.carry (Rep.begin v) (k.take (Msh.off r)))) ?_ fun K2 hK2 => ?_
    · rintro h5 _ W hx ⟨xW, c, rfl, hc1, hc2⟩
      rw [hx]
      exact Br_i (fun hc => no xW (hc1 hc)) fun hc => hK _ ⟨xW, hc2 hc⟩
    refine draw_ext fun w4 x4 => ?_
    have x14 := x13.trans x4
    refine det_read _ (fun W' x K => Ty.SReport_f0) ?_
    refine det_read (.int .i64 s.veh) (fun W' x K => load_cell Ty.int_agg (has_at (hg W' (x14.trans x)) (d := 0) rfl rfl)) ?_
    refine det_read _ (fun W' x K => nil_ptr) ?_
    refine det_read _ (fun W' x K => Ty.SJoin_f0) ?_
    refine det_read (.int .i64 sj.veh) (fun W' x K => load_cell Ty.int_agg (has_at (hgj W' (x14.trans x)) (d := 0) rfl rfl)) ?_
    refine det_read (.bool (!decide (r.veh = v))) (fun W' x K => by rw [h.1, ev, bin_neq]) ?_
    refine Gd_i (fun hb => ?_) fun hb => ?_
    · have c1 : r.veh = v := by simpa using hb
      refine det_read _ (fun W' x K => bin_gtr) ?_
      refine Gd_i (fun hb2 => ?_) fun hb2 => ?_
      · have c2 : Msh.off r ≤ k.length := by have := dec_f hb2; omega
        refine det_read _ (fun W' x K => Ty.SReport_f2) ?_
        refine det_read s.ents.val (fun W' x K => load_cell Ty.ents_agg (has_at (hg W' (x14.trans x)) (d := 2) rfl rfl)) ?_
        refine det_read _ (fun W' x K => SEntry.row_len (Sl.ext hre (x14.trans x))) ?_
        refine det_read (.int .i64 ((Msh.off r + r.ents.length : Nat) : Int)) (fun W' x K => by rw [bin_add, i64_wrap (by omega) (by omega), show ((Msh.off r : Nat) : Int) + r.ents.length = ((Msh.off r + r.ents.length : Nat) : Int) by omega]) ?_
        refine det_read _ (fun W' x K => bin_leq) ?_
        refine Gd_i (fun hb3 => ?_) fun hb3 => ?_
        · have c3 : k.length < Msh.off r + r.ents.length := by have := dec_f hb3; omega
          obtain ⟨p, hix, hld⟩ := u64_at hcrow (j := Msh.off r) (by rw [chs_len]; omega)
          refine det_read _ (fun W' x K => Ty.SReport_f3) ?_
          refine det_read (u64v s.before) (fun W' x K => load_cell Ty.u64_agg (has_at (hg W' (x14.trans x)) (d := 3) rfl rfl)) ?_
          refine det_read _ (fun W' x K => nil_ptr) ?_
          refine det_read _ (fun W' x K => Ty.SJoin_f2) ?_
          refine det_read sj.chains.val (fun W' x K => load_cell Ty.u64s_agg (has_at (hgj W' (x14.trans x)) (d := 2) rfl rfl)) ?_
          refine det_read _ (fun W' x K => hix W' K _) ?_
          refine det_read _ (fun W' x K => hld W' (x14.trans x) K _) ?_
          intro w5 x5 _
          rw [u64_neq, chs_get c2, h.2.2.2.1]
          refine hK2 _ _ ⟨x14.trans x5, _, rfl, fun hc hF => ?_, fun hc => ⟨c1, c2, c3, by simpa using hc⟩⟩
          rw [decide_eq_true hF.2.2.2.1] at hc; cases hc
        · intro w5 x5 _
          exact hK2 _ _ ⟨x14.trans x5, _, rfl, fun _ hF => by have := hF.2.2.1; have := dec_t (by simpa using hb3); omega, fun hc => by cases hc⟩
      · intro w5 x5 _
        exact hK2 _ _ ⟨x14.trans x5, _, rfl, fun _ hF => by have := hF.2.1; have := dec_t (by simpa using hb2); omega, fun hc => by cases hc⟩
    · intro w5 x5 _
      refine hK2 _ _ ⟨x14.trans x5, _, rfl, fun _ hF => ?_, fun hc => by cases hc⟩
      rw [decide_eq_true hF.1] at hb; cases hb
end Go.Proofs.YtohmledhhgdgaaaGreatDoor
