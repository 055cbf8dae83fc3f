/- Boxes of reports: Merge. -/
import Derived.Test.YtohmledhhgdgaaaGreatDoorGMshS
import Derived.Shelf.SlSortCmp.NoneTotal
set_option linter.unusedVariables false
set_option linter.unusedSimpArgs false
namespace Go.Proofs.YtohmledhhgdgaaaGreatDoor
set_option maxRecDepth 100000
set_option maxHeartbeats 8000000
open Sh Go.RowKit
theorem RepsL.of_pairs {B : Nat → Prop} {w : World} {P : List Msh.Pr} (h : ∀ p ∈ P, LiveS B w p.1 p.2) : RepsL B w (P.map Prod.fst) (P.map Prod.snd) := by
  refine ⟨by simp, fun i s r e1 e2 => ?_⟩
  rw [List.getElem?_map] at e1 e2
  cases hp : P[i]? with
  | none => rw [hp] at e1; cases e1
  | some p =>
    rw [hp] at e1 e2
    cases e1; cases e2
    exact h p (List.mem_of_getElem? hp)
theorem RepsL.pairs {B : Nat → Prop} {w : World} {ss : List SReport} {l : List Rep.Rpt} (h : RepsL B w ss l) : (ss.zip l).map Prod.fst = ss ∧ (ss.zip l).map Prod.snd = l ∧ ∀ p ∈ ss.zip l, LiveS B w p.1 p.2 ∧ p.2 ∈ l := by
  refine ⟨List.map_fst_zip (by rw [h.1]; exact Nat.le_refl _), List.map_snd_zip (by rw [h.1]; exact Nat.le_refl _), fun p hp => ?_⟩
  obtain ⟨i, hi, rfl⟩ := List.mem_iff_getElem.1 hp
  rw [List.length_zip] at hi
  rw [List.getElem_zip]
  exact ⟨h.2 i _ _ (List.getElem?_eq_getElem (by omega)) (List.getElem?_eq_getElem (by omega)), List.getElem_mem _⟩
theorem new_box26 (n : Int) (d : Hdr) : Tryz.prog.built 24 [(0, .int .i64 n), (1, d.val)] = some (⟨n, d⟩ : SBox).cells.toArray := by kernel_rfl
theorem msort_none (c : Nat) (fv : Value) (w : World) : Ret Tryz.prog 43 #[.slice none 0 c, fv] w fun _ w' => w' = w := by
  refine Calls.mono (Go.Proofs.AnyF.slices_SortFunc_none Tryz.laysSlF06 none c fv w) fun e w' he => ?_
  obtain ⟨rfl, rfl⟩ := he
  rfl
theorem mCompact_none (fv : Value) (w : World) : Ret Tryz.prog 44 #[.slice none 0 0, fv] w fun r w' => r = .slice none 0 0 ∧ w' = w := by
  refine ret_of (fun _ _ => sh_slices_CompactFunc___api_Report_api_Report__ok _ _) fun R hR => ?_
  unfold sh_slices_CompactFunc___api_Report_api_Report_
  rw [len_slice Ty.SReport_row, bin_lss]
  exact Br_i (fun _ => hR _ _ ⟨rfl, rfl⟩) fun hb => absurd (dec_f hb) (by simp)
theorem merge_dd {P P' : List Msh.Pr} {a b : List Rep.Rpt} (ha : Msh.Sorted a) (hP : P.map Prod.snd = a ++ b) (hp : P'.Perm P) (hs : ∀ i j (hj : j < P'.length) (hij : i < j), Msh.less P'[j].2 (P'[i]'(by omega)).2 = false) : (Msh.dd P' P'.length).map Prod.snd = Msh.merge a b := by
  refine (Msh.dd_sorted hs (Nat.le_refl _)).ext ha.merge fun x => ?_
  rw [Msh.mem_merge, ← List.mem_append, ← hP]
  constructor
  · intro hx
    obtain ⟨p, hp1, rfl⟩ := List.mem_map.1 hx
    obtain ⟨j, _, hj, rfl⟩ := Msh.dd_mem hp1
    exact List.mem_map.2 ⟨_, hp.subset (List.getElem_mem hj), rfl⟩
  · intro hx
    obtain ⟨p, hp1, rfl⟩ := List.mem_map.1 hx
    obtain ⟨j, hj, rfl⟩ := List.mem_iff_getElem.1 (hp.symm.subset hp1)
    exact Msh.dd_has (Nat.le_refl _) hj
theorem mmerged_ret {B : Nat → Prop} {v : Value} {d e : Hdr} {a b : List Rep.Rpt} (w0 w : World) (x0 : Ext w0 w) (ha : LiveR B w0 d.val a) (hb : LiveR B w0 e.val b) (hB : ∀ k, B k → k < w0.heap.size) (hfa : ∀ r ∈ a, r.ents.length < 1000000) (hfb : ∀ r ∈ b, r.ents.length < 1000000) (hs : Msh.Sorted a) (hla : a.length ≤ 500) (hlb : b.length ≤ 500)
    (hv : Sl w 1 v 2 [d.val, e.val]) {K : Value → World → Prop} {X1 X2 X3 : List PanicEntry → World → Prop} (hK : ∀ (g : Hdr) w', Ext w0 w' → LiveR B w' g.val (Msh.merge a b) → K g.val w') :
    CallF Tryz.prog 42 #[v] w (fun u w1 => CallF Tryz.prog 43 #[u, .func (.func 38) #[] #[]] w1 (fun _ w2 => CallF Tryz.prog 44 #[u, .func (.func 45) #[] #[]] w2 K X3) X2) X1 := by
  obtain ⟨ssA, hrA, hA⟩ := id ha
  obtain ⟨ssB, hrB, hBB⟩ := id hb
  have hlA := hA.1
  have hlB := hBB.1
  let L : List (Value × List SReport) := [(d.val, ssA), (e.val, ssB)]
  have hcat : cat L L.length = ssA ++ ssB := by simp [cat, L]
  have hrow : ∀ x ∈ L, SReport.Row w x.1 x.2 := fun x hx => by
    simp only [L, List.mem_cons, List.not_mem_nil, or_false] at hx
    rcases hx with rfl | rfl
    · exact Sl.ext (hrA w0 (Mod.refl _ _)) x0
    · exact Sl.ext (hrB w0 (Mod.refl _ _)) x0
  have hcl : (ssA ++ ssB).length ≤ 1000 := by rw [List.length_append]; omega
  refine callF_ret (mConcat_ret (L := L) w hv hrow (by rw [hcat]; omega)) ?_
  rw [hcat]
  rintro u w1 ⟨ho1, x1⟩
  have x01 := x0.trans x1
  have hAB := hA.app hBB
  obtain ⟨hP1, hP2, hP3⟩ := hAB.pairs
  generalize hP : (ssA ++ ssB).zip (a ++ b) = P at hP1 hP2 hP3
  have hPl : P.length = (ssA ++ ssB).length := by rw [← hP1, List.length_map]
  have hfew : ∀ p ∈ P, p.2.ents.length < 1000000 := fun p hp => by
    have := (hP3 p hp).2
    rw [List.mem_append] at this
    exact this.elim (hfa _) (hfb _)
  rcases ho1.2 with ⟨rfl, h0⟩ | ⟨g, cap, cur, rfl, hbg, hg, hnc, hcm, hcs, htk⟩
  · refine callF_ret (msort_none 0 _ w1) ?_
    rintro _ _ rfl
    refine callF_ret (mCompact_none _ _) ?_
    rintro _ _ ⟨rfl, rfl⟩
    have ea : a = [] := List.eq_nil_of_length_eq_zero (by rw [List.length_append] at h0; omega)
    have eb : b = [] := List.eq_nil_of_length_eq_zero (by rw [List.length_append] at h0; omega)
    subst ea eb
    exact hK ⟨none, 0, 0⟩ _ x01 (LiveR.nil _ _)
  · have hg : At w1 g (.cells cur 30 (0, 0)) := hg
    have hgw : w0.heap.size ≤ g := by have := x0.size; omega
    have hl1 : ∀ p ∈ P, LiveS (· = g) w1 p.1 p.2 ∧ p.2.ents.length < 1000000 := fun p hp => ⟨(hP3 p hp).1.wide x01 fun k hk => .inr (by omega), hfew p hp⟩
    rw [← hPl] at hnc htk ⊢
    rw [← hP1] at htk
    refine callF_ret (msort_ret w1 hg hnc hcs htk hl1 (by omega)) ?_
    rintro _ w2 ⟨P', cur2, hperm, hsort, hat2, hcs2, htk2, m2⟩
    have hPl' : P'.length = P.length := hperm.length_eq
    rw [← hPl']
    refine callF_ret (mCompact_ret w2 hat2 (by omega) hcm hcs2 htk2 (fun p hp => ⟨(hl1 p (hperm.subset hp)).1.mod m2, hfew p (hperm.subset hp)⟩) (by omega)) ?_
    rintro _ w3 ⟨cur3, rfl, hat3, hcs3, htk3, m3⟩
    have m13 : Mod (· = g) w1 w3 := m2.trans m3
    have x03 : Ext w0 w3 := ext_step x01 m13 hgw
    have hmd := merge_dd hs hP2 hperm hsort
    have hdl := Msh.dd_len (P := P') P'.length
    refine hK ⟨some ⟨g, 0, none⟩, _, cap⟩ w3 x03 ⟨(Msh.dd P' P'.length).map Prod.fst, RowL.of_own (base := w0.heap.size) (ss := (Msh.dd P' P'.length).map Prod.fst) ⟨by rw [List.length_map, fl_length SReport.len, List.length_map], .inr ⟨g, cap, cur3, by rw [List.length_map]; rfl, hgw, hat3, by rw [List.length_map]; omega, hcm, hcs3, by rw [List.length_map]; exact htk3⟩⟩ hB, ?_⟩
    rw [← hmd]
    refine RepsL.of_pairs fun p hp => ?_
    obtain ⟨j, _, hj, rfl⟩ := Msh.dd_mem hp
    exact (hP3 _ (hperm.subset (List.getElem_mem hj))).1.ext x03
theorem mMerge_ret {B : Nat → Prop} {s t : SBox} {a b : Int × List Rep.Rpt} (hoka : ∀ x ∈ a.2, RepOk x) (hokb : ∀ x ∈ b.2, RepOk x) (w : World) (ha : LiveB B w s a) (hb : LiveB B w t b) (hB : ∀ k, B k → k < w.heap.size) (hT : Tab w) :
    Ret Tryz.prog 16 #[.agg s.cells.toArray, .agg t.cells.toArray] w (MergeQ B a b w) := by
  refine ret_of (fun _ _ => sh_mesh_Merge_ok _ _) fun R hR => ?_
  unfold sh_mesh_Merge
  refine box_i fun b2 w1 x1 hat2 hb2 _ => ?_
  refine box_i fun b3 w2 x2 hat3 hb3 _ => ?_
  refine alloc_i Ty.SBox_zero fun b4 w3 x3 hat4 hb4 _ => ?_
  have x03 := (x1.trans x2).trans x3
  have h2 := (At.ext hat2 x2).ext x3
  have h3 := At.ext hat3 x3
  have z1 := x1.size
  have z2 := x2.size
  have z3 := x3.size
  have l2 := At.lt hat2
  have l3 := h3.lt
  have l4 := hat4.lt
  have out : ∀ {W W' : World} {g : SBox} {e : Int}, Ext w W → Mod (· = b4) W W' → (mergeV a b).2 = e → LiveB B W' g (mergeV a b).1 → R (.returned (.tuple #[.agg g.cells.toArray, .int .i64 e])) W' := fun xW m e1 hl => hR _ _ ⟨_, by rw [e1], hl, ext_step xW m (by omega)⟩
  have bad : (bvalid a = false ∨ bvalid b = false) → ∀ (W : World), Ext w3 W → ∀ X1 X2 : List PanicEntry → World → Prop, DoV Tryz.prog (Instr.build 24 #[]) W (fun t13 w13 => DoU Tryz.prog (Instr.storeAt 24 (.pointer (some ⟨b4, 0, none⟩)) t13) w13 (fun _ w14 => Res Tryz.prog [.cell (.pointer (some ⟨b4, 0, none⟩)) 24, .tmp (.int .i64 1)] w14 R) X1) X2 := fun h W xW X1 X2 => by
    have e : mergeV a b = ((0, []), 1) := by unfold mergeV; rw [if_pos h]
    rw [build_i new_nobox]
    exact box_out2 (g := SBox.zero) (hat4.ext xW) fun w' m => out (x03.trans xW) m (by rw [e]) (by rw [e]; exact LiveB.zero _ _)
  refine join0 (fun W => Ext w3 W ∧ bvalid a = true ∧ bvalid b = true) ?_ fun K hK => ?_
  · rintro _ W ⟨xW, va, vb⟩
    have x0W := x03.trans xW
    have hVa := bvalid_iff.1 va
    have hVb := bvalid_iff.1 vb
    have nb : ¬ (bvalid a = false ∨ bvalid b = false) := by rw [va, vb]; simp
    let B' : Nat → Prop := fun k => B k ∨ k = b4
    have hB' : ∀ k, B' k → B k ∨ w.heap.size ≤ k := fun k h => h.imp id fun h => by omega
    rw [SBox.g_reps (has_of_at (h2.ext xW)), SBox.g_reps (has_of_at (h3.ext xW))]
    obtain ⟨ii, hii, hzz, hss, _⟩ := Ty.info_parts Ty.reps_info
    refine litn_i (n := 2) [s.reps.val, t.reps.val] Ty.reprows hii hss hzz (by intro v hv; simp only [List.mem_cons, List.not_mem_nil, or_false] at hv; rcases hv with rfl | rfl <;> rfl) rfl (by decide) (by decide) rfl fun v w4 x4 ho4 _ => ?_
    have zW := xW.size
    refine mmerged_ret (B := B') W w4 x4 (ha.2.wide x0W hB') (hb.2.wide x0W hB') (fun k h => ?_) (fun r hr => okR_few (hVa.2.2.1 r hr)) (fun r hr => okR_few (hVb.2.2.1 r hr)) hVa.2.2.2 hVa.2.1 hVb.2.1 (Sl.of_owns ho4) fun g w5 x5 hg5 => ?_
    · rcases h with h | h
      · have := hB k h; omega
      · omega
    have x35 := xW.trans x5
    have x05 := x03.trans x35
    rw [hg5.is.len, bin_gtr]
    refine Br_i (fun hg => ?_) fun hg => ?_
    · have hg := dec_t hg
      have e : mergeV a b = ((0, []), 2) := by unfold mergeV; rw [if_neg nb, if_pos (by omega)]
      rw [build_i new_nobox]
      exact box_out2 (g := SBox.zero) (hat4.ext x35) fun w' m => out x05 m (by rw [e]) (by rw [e]; exact LiveB.zero _ _)
    · have hg := dec_f hg
      have e : mergeV a b = ((a.1, Msh.merge a.2 b.2), 0) := by unfold mergeV; rw [if_neg nb, if_neg (by omega)]
      rw [SBox.g_veh (has_of_at (h2.ext x35)), build_i (new_box26 _ _)]
      refine box_out2 (g := ⟨s.veh, g⟩) (hat4.ext x35) fun w' m => out x05 m (by rw [e]) ?_
      rw [e]
      exact ⟨ha.1, (hg5.mod (m.mono fun k _ h => .inr h)).sub fun k h => .inl h⟩
  · refine join1 (fun x W => Ext w3 W ∧ ∃ c, x = .bool c ∧ (c = false → bvalid a = true ∧ bvalid b = true) ∧ (c = true → bvalid a = false ∨ bvalid b = false)) ?_ fun K3 hK3 => ?_
    · rintro h5 _ W hx ⟨xW, c, rfl, hc1, hc2⟩
      rw [hx]
      exact Br_i (fun hc => bad (hc2 hc) W xW _ _) fun hc => hK _ ⟨xW, hc1 hc⟩
    rw [SBox.g_all (has_of_at h2)]
    refine callF_ret (mvalid_ret hoka w3 (ha.is.ext x03) (hT.ext x03)) ?_
    rintro _ w4 ⟨rfl, x4⟩
    rw [un_not]
    refine Gd_i (fun hbi => ?_) fun hbi => ?_
    · have va : bvalid a = true := by simpa using hbi
      rw [SBox.g_all (has_of_at (h3.ext x4))]
      refine callF_ret (mvalid_ret hokb w4 (hb.is.ext (x03.trans x4)) (hT.ext (x03.trans x4))) ?_
      rintro _ w5 ⟨rfl, x5⟩
      rw [un_not]
      exact hK3 _ _ ⟨x4.trans x5, _, rfl, fun h => ⟨va, by simpa using h⟩, fun h => .inr (by simpa using h)⟩
    · exact hK3 _ _ ⟨x4, _, rfl, fun h => (by cases h), fun _ => .inl (by simpa using hbi)⟩
end Go.Proofs.YtohmledhhgdgaaaGreatDoor
