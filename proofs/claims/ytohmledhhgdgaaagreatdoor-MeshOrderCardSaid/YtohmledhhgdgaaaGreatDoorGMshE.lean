/- Boxes of reports: put, Add. -/
import Derived.Test.YtohmledhhgdgaaaGreatDoorGMshJ
set_option linter.unusedVariables false
set_option linter.unusedSimpArgs false
namespace Go.Proofs.YtohmledhhgdgaaaGreatDoor
set_option maxRecDepth 100000
set_option maxHeartbeats 8000000
open Sh Go.RowKit
section live
variable {B : Nat → Prop} {w w0 W : World} {v : Value} {s : SReport} {r : Rep.Rpt} {ss ss' : List SReport} {l l' : List Rep.Rpt}
theorem RepsL.app (h : RepsL B w ss l) (h' : RepsL B w ss' l') : RepsL B w (ss ++ ss') (l ++ l') := by
  refine ⟨by simp [h.1, h'.1], fun i s r e1 e2 => ?_⟩
  rw [List.getElem?_append] at e1 e2
  rw [← h.1] at e2
  split at e1
  · rename_i hi
    rw [if_pos hi] at e2
    exact h.2 i s r e1 e2
  · rename_i hi
    rw [if_neg hi] at e2
    exact h'.2 _ s r e1 e2
theorem RepsL.cons (hr : LiveS B w s r) (h : RepsL B w ss l) : RepsL B w (s :: ss) (r :: l) := by
  refine ⟨by simp [h.1], fun i s' r' e1 e2 => ?_⟩
  cases i with
  | zero => cases e1; cases e2; exact hr
  | succ i => exact h.2 i s' r' (by simpa using e1) (by simpa using e2)
theorem RepsL.take (h : RepsL B w ss l) (k : Nat) : RepsL B w (ss.take k) (l.take k) := by
  refine ⟨by simp [h.1], fun i s r e1 e2 => ?_⟩
  rw [List.getElem?_take] at e1 e2
  split at e1
  · rename_i hi
    rw [if_pos hi] at e2
    exact h.2 i s r e1 e2
  · cases e1
theorem RepsL.drop (h : RepsL B w ss l) (k : Nat) : RepsL B w (ss.drop k) (l.drop k) := by
  refine ⟨by simp [h.1], fun i s r e1 e2 => ?_⟩
  rw [List.getElem?_drop] at e1 e2
  exact h.2 _ s r e1 e2
theorem RepsL.insert (h : RepsL B w ss l) (hr : LiveS B w s r) (i : Nat) : RepsL B w (ss.take i ++ s :: ss.drop i) (l.take i ++ r :: l.drop i) := (h.take i).app ((h.drop i).cons hr)
end live
theorem mCloneRow_ret {v : Value} {ss : List SReport} (w : World) (hrow : SReport.Row w v ss) (hl : ss.length < 100000000) : Ret Tryz.prog 67 #[v] w fun r w' => SReport.Owns w.heap.size w' r ss ∧ Ext w w' := by
  refine ret_of (fun _ _ => sh_slices_Clone___api_Report_api_Report__ok _) fun R hR => ?_
  unfold sh_slices_Clone___api_Report_api_Report_
  obtain ⟨a, c, rfl, hr⟩ := id hrow
  rw [bin_slnil26]
  refine Br_i (fun hb => ?_) fun hb => ?_
  · cases a with
    | some _ => cases hb
    | none =>
      rcases hr.2.2.2 with h0 | ⟨_, _, h0, _⟩
      · have hl0 : ss = [] := by
          cases ss with
          | nil => rfl
          | cons x l => rw [fl_cons] at h0; have := SReport.len x; rw [(List.append_eq_nil_iff.1 h0).1] at this; cases this
        subst hl0
        exact hR _ _ ⟨SReport.owns_nil _ _, Ext.refl _⟩
      · cases h0
  · refine SReport.row_lit0 fun v1 w1 x1 ho1 hs1 => ?_
    refine SReport.row_apps ho1 (Sl.ext hrow x1) (by simp; omega) (by omega) fun v2 w2 ho2 m2 => ?_
    have x2 : Ext w w2 := ((Mod.of_ext x1 : Mod (w.heap.size ≤ ·) w w1).trans (m2.mono fun k _ hk => (Own.block ho1 hk).1)).new
    exact hR _ _ ⟨ho2, x2⟩
theorem mput_ret {B : Nat → Prop} {v : Value} {t : SReport} {l : List Rep.Rpt} {r : Rep.Rpt} (hs : Msh.Sorted l) (hn : l.length < 10000) (hl : ∀ x ∈ l, x.ents.length < 1000000) (hr : r.ents.length < 1000000) (w : World) (hv : LiveR B w v l) (ht : RepIs w t r) (hB : ∀ k, B k → k < w.heap.size) :
    Ret Tryz.prog 31 #[v, .agg t.cells.toArray] w fun u w' => LiveR B w' u (Msh.put l r) ∧ Ext w w' := by
  refine ret_of (fun _ _ => sh_mesh_put_ok _ _) fun R hR => ?_
  unfold sh_mesh_put
  refine box_i fun g w1 x1 hat hg _ => ?_
  have z1 := x1.size
  rw [SReport.g_all (has_of_at hat)]
  have hv0 := hv
  obtain ⟨ss, hrow, hof⟩ := hv0
  have hlen := hof.1
  refine callF_ret (msearch_ret hs (by omega) hl hr w1 (hv.is.ext x1) (ht.ext x1)) ?_
  rintro _ w2 ⟨⟨i, b, rfl, hi, hbelow, hthere, hnot⟩, x2⟩
  have x02 := x1.trans x2
  rw [ext2_0, ext2_1]
  refine Br_i (fun hb => ?_) fun hb => ?_
  · refine hR _ _ ⟨?_, x02⟩
    rw [Msh.put_there hs (hthere hb)]
    exact hv.ext x02
  have hput := Msh.put_at hi hbelow (hnot hb)
  have hat2 := hat.ext x2
  rw [SReport.g_ents (has_of_at hat2)]
  have ht2 := ht.ext x02
  refine callF_ret (Clone_ret w2 ht2.2.2.1 (by omega)) ?_
  rintro cv w3 ⟨hcl, x3⟩
  obtain ⟨d, rfl⟩ := Hdr.of_sl (Sl.of_owns hcl)
  refine SReport.s_ents (x := d) (hat2.ext x3) fun w4 m4 hat4 _ => ?_
  have x04 : Ext w w4 := ext_step (x02.trans x3) m4 (by omega)
  have z2 := x02.size
  have l4 := hat4.lt
  have hcl4 : SEntry.Owns w2.heap.size w4 d.val r.ents := Own.mod hcl m4 fun k hk hkg => by
    have := (Own.block hcl hk).1
    have := hat2.lt
    omega
  let t' : SReport := { t with ents := d }
  have htl : ∀ W, Ext w4 W → LiveS B W t' r := fun W xW W' m' => by
    refine ⟨ht.1, ht.2.1, Sl.of_owns (Own.mod (Own.ext hcl4 xW) m' fun k hk hkB => ?_), ht.2.2.2.1, ht.2.2.2.2.1, ht.2.2.2.2.2⟩
    have := (Own.block (Own.ext hcl4 xW) hk).1
    have := hB k hkB
    omega
  refine drawRX fun w5 x5 z5 => ?_
  have x05 := x04.trans x5
  refine det_rx _ (fun W' x K => SReport.g_all (s := t') (has_of_at ((hat4.ext x5).ext x))) ?_
  refine thr_x (fun vs W => ∃ v, vs = [v] ∧ SReport.Owns w5.heap.size W v ss) ?_ ?_
  · refine nd_x (fun v W => SReport.Owns w5.heap.size W v ss) (fun v a b h x => Own.ext h x) (fun w6 x6 _ => callF_ret (mCloneRow_ret w6 (Sl.ext (hrow w (Mod.refl _ _)) (x05.trans x6)) (by omega)) fun v w7 hq => ⟨hq.2, Own.mono hq.1 x6.size⟩) fun v => ?_
    intro w6 x6 h
    exact ⟨v, rfl, h⟩
  refine thr_x (fun vs W => ∃ q, vs = [.slice (some ⟨q, 0, none⟩) 1 1] ∧ At W q (.cells t'.cells.toArray 30 (0, 0))) ?_ ?_
  · refine nd_x (fun v W => ∃ q, v = .slice (some ⟨q, 0, none⟩) 1 1 ∧ At W q (.cells t'.cells.toArray 30 (0, 0))) (fun v a b h x => by obtain ⟨q, e, h⟩ := h; exact ⟨q, e, h.ext x⟩) (fun w6 x6 _ => SReport.lit_one fun w7 x7 h7 => ⟨x7, _, rfl, h7⟩) fun v => ?_
    intro w6 x6 h
    obtain ⟨q, rfl, h⟩ := h
    exact ⟨q, rfl, h⟩
  rintro hh w6 x6 ⟨_, ⟨_, v1, e1, h1⟩, q, e2, h2⟩
  simp only [List.cons.injEq, and_true] at e1 e2
  rw [e1, e2]
  refine callF_ret (mInsert_ret w6 h1 h2 (by omega) (by omega) x6.size) ?_
  rintro u w7 ⟨ho7, m7⟩
  have x57 : Ext w5 w7 := ((Mod.of_ext x6 : Mod (w5.heap.size ≤ ·) w5 w6).trans m7).new
  have x07 := x05.trans x57
  refine hR _ _ ⟨?_, x07⟩
  rw [hput]
  refine ⟨_, RowL.of_own ho7 fun k hk => by have := hB k hk; have := x05.size; omega, ?_⟩
  exact (hof.mod (.of_ext x07)).insert (htl _ (x5.trans x57)) i
theorem mAdd_ret {B : Nat → Prop} {s : SBox} {t : SReport} {b : Int × List Rep.Rpt} {r : Rep.Rpt} {p : Int} (hokr : RepOk r) (hok : ∀ x ∈ b.2, RepOk x) (w : World) (hv : LiveB B w s b) (ht : RepIs w t r) (hB : ∀ k, B k → k < w.heap.size) (hT : Tab w) :
    Ret Tryz.prog 11 #[.agg s.cells.toArray, .agg t.cells.toArray, .int .i64 p] w (AddQ B b r p w) := by
  refine ret_of (fun _ _ => sh_mesh_Add_ok _ _ _) fun R hR => ?_
  unfold sh_mesh_Add
  refine box_i fun b3 w1 x1 hat3 hb3 _ => ?_
  refine box_i fun b4 w2 x2 hat4 hb4 _ => ?_
  refine alloc_i Ty.SBox_zero fun b6 w3 x3 hat6 hb6 _ => ?_
  have x03 := (x1.trans x2).trans x3
  have h3 := (At.ext hat3 x2).ext x3
  have h4 := At.ext hat4 x3
  have z1 := x1.size
  have z2 := x2.size
  have z3 := x3.size
  have l3 := h3.lt
  have l6 := hat6.lt
  have out : ∀ {W W' : World} {g : SBox} {f : Bool} {e : Int}, Ext w W → Mod (· = b6) W W' → (addV b r p).2.1 = f → (addV b r p).2.2 = e → LiveB B W' g (addV b r p).1 → R (.returned (.tuple #[.agg g.cells.toArray, .bool f, .int .i64 e])) W' := fun xW m e1 e2 hl => hR _ _ ⟨_, by rw [e1, e2], hl, ext_step xW m (by omega)⟩
  rw [SBox.g_all (has_of_at h3)]
  refine callF_ret (mvalid_ret hok w3 (hv.is.ext x03) (hT.ext x03)) ?_
  rintro _ w4 ⟨rfl, x4⟩
  have x04 := x03.trans x4
  rw [un_not]
  refine Br_i (fun hb => ?_) fun hb => ?_
  · have hb : bvalid b = false := by simpa using hb
    have e : addV b r p = ((0, []), false, 1) := by unfold addV; rw [if_pos hb]
    rw [build_i new_nobox]
    exact box_out3 (g := SBox.zero) (hat6.ext x4) fun w' m => out x04 m (by rw [e]) (by rw [e]) (by rw [e]; exact LiveB.zero _ _)
  have hbv : bvalid b = true := by simpa using hb
  have hV := bvalid_iff.1 hbv
  rw [SReport.g_all (has_of_at (h4.ext x4))]
  refine callF_ret (Check_ret (p := p) hokr w4 (ht.ext x04) (hT.ext x04)) ?_
  rintro _ w5 ⟨rfl, x5⟩
  have x05 := x04.trans x5
  have x35 := x4.trans x5
  rw [ext2_0, ext2_1, bin_neq]
  refine Br_i (fun hb => ?_) fun hb => ?_
  · have hne : (Rep.checkV r p).2 ≠ 0 := by simpa using hb
    have e : addV b r p = ((0, []), false, (Rep.checkV r p).2) := by unfold addV; rw [if_neg (by rw [hbv]; decide), if_pos hne]
    rw [build_i new_nobox]
    exact box_out3 (g := SBox.zero) (hat6.ext x35) fun w' m => out x05 m (by rw [e]) (by rw [e]) (by rw [e]; exact LiveB.zero _ _)
  have h0 : (Rep.checkV r p).2 = 0 := by simpa using hb
  rw [un_not]
  refine Br_i (fun hb => ?_) fun hb => ?_
  · have hr0 : (Rep.checkV r p).1 = false := by simpa using hb
    have e : addV b r p = (b, false, 0) := by unfold addV; rw [if_neg (by rw [hbv]; decide), if_neg (by rw [h0]; decide), if_pos hr0]
    rw [SBox.g_all (has_of_at (h3.ext x35))]
    refine box_out3 (g := s) (hat6.ext x35) fun w' m => out x05 m (by rw [e]) (by rw [e]) ?_
    rw [e]; exact hv.ext (ext_step x05 m (by omega))
  have hr1 : (Rep.checkV r p).1 = true := by simpa using hb
  have hokR : Rep.okR r = true := by
    cases h : Rep.okR r with
    | true => rfl
    | false => rw [Rep.check_bad h] at hr1; cases hr1
  let B' : Nat → Prop := fun k => B k ∨ k = b3 ∨ k = b6
  have hB' : ∀ k, B' k → B k ∨ w.heap.size ≤ k := fun k h => h.imp id fun h => by rcases h with h | h <;> omega
  have z5 := x05.size
  have z35 := x35.size
  have hBl : ∀ k, B' k → k < w5.heap.size := fun k h => by
    rcases h with h | h | h
    · have := hB k h; omega
    · omega
    · omega
  rw [SBox.g_reps (has_of_at (h3.ext x35)), SReport.g_all (has_of_at (h4.ext x35))]
  refine callF_ret (mput_ret (B := B') hV.2.2.2 (by have := hV.2.1; omega) (fun x hx => okR_few (hV.2.2.1 x hx)) (okR_few hokR) w5 (hv.2.wide x05 hB') (ht.ext x05) hBl) ?_
  rintro u w6 ⟨hu, x6⟩
  obtain ⟨d, rfl⟩ := hu.hdr
  have x36 := x35.trans x6
  refine SBox.s_reps (h3.ext x36) fun w7 m7 hat7 _ => ?_
  have x07 : Ext w w7 := ext_step (x05.trans x6) m7 (by omega)
  have hu7 := hu.mod (m7.mono fun k _ h => .inr (.inl h))
  have hat67 := (hat6.ext x36).mod m7 (by omega)
  rw [SBox.g_reps (has_of_at hat7), hu7.is.len, bin_gtr]
  refine Br_i (fun hb => ?_) fun hb => ?_
  · have hg := dec_t hb
    have e : addV b r p = ((0, []), false, 2) := by unfold addV; rw [if_neg (by rw [hbv]; decide), if_neg (by rw [h0]; decide), if_neg (by rw [hr1]; decide), if_pos (by omega)]
    rw [build_i new_nobox]
    exact box_out3 (g := SBox.zero) hat67 fun w' m => out x07 m (by rw [e]) (by rw [e]) (by rw [e]; exact LiveB.zero _ _)
  · have hg := dec_f hb
    have e : addV b r p = ((b.1, Msh.put b.2 r), true, 0) := by unfold addV; rw [if_neg (by rw [hbv]; decide), if_neg (by rw [h0]; decide), if_neg (by rw [hr1]; decide), if_neg (by omega)]
    rw [SBox.g_all (s := { s with reps := d }) (has_of_at hat7)]
    refine box_out3 (g := { s with reps := d }) hat67 fun w' m => out x07 m (by rw [e]) (by rw [e]) ?_
    rw [e]
    exact ⟨hv.1, (hu7.mod (m.mono fun k _ h => .inr (.inr h))).sub fun k h => .inl h⟩
end Go.Proofs.YtohmledhhgdgaaaGreatDoor
