/- What is known of a vehicle: the walk of Known. -/
import Derived.Test.YtohmledhhgdgaaaGreatDoorGMshM
import Derived.Test.YtohmledhhgdgaaaGreatDoorGMshF
set_option linter.unusedVariables false
set_option linter.unusedSimpArgs false
namespace Go.Proofs.YtohmledhhgdgaaaGreatDoor
set_option maxRecDepth 100000
set_option maxHeartbeats 16000000
open Sh Go.RowKit
theorem mKnown_ret {s : SBox} {b : Int × List Rep.Rpt} {v : Int} (hok : ∀ r ∈ b.2, RepOk r) (hiv : I64 v) (w : World) (h : BoxIs w s b) (hT : Tab w) : Ret Tryz.prog 18 #[.agg s.cells.toArray, .int .i64 v] w (KnownQ b v w) := by
  refine ret_of (fun _ _ => sh_mesh_Known_ok _ _) fun R hR => ?_
  unfold sh_mesh_Known
  refine box_i fun bx w1 x1 hatx hbx _ => ?_
  refine join3 (fun p q r W => p = .slice none 0 0 ∧ q = .int .u64 0 ∧ r = .int .i64 0 ∧ Ext w1 W ∧ bvalid b = true ∧ Rep.isID v = true) ?_ fun K hK => ?_
  · rintro h10 _ _ _ W - - - ⟨rfl, rfl, rfl, xW, va, vi⟩
    have hV := bvalid_iff.1 va
    have x0W := x1.trans xW
    refine lit_ints [v] rfl (by decide) (by decide) rfl fun v1 w2 x2 ho2 _ => ?_
    refine callF_ret (sum_int_ret (l := [v]) (by intro n hn; rw [List.mem_singleton] at hn; subst hn; exact hiv) w2 (Sl.of_owns ho2) (hT.ext (x0W.trans x2))) ?_
    rintro _ w3 ⟨rfl, x3⟩
    have x03 := (x0W.trans x2).trans x3
    obtain ⟨iu, hiu, hzu, hsu, hbu⟩ := Ty.info_parts Ty.u64_info
    refine litn_i (n := 1) [u64v (Dig.sum [v])] Ty.u64s hiu hsu hzu (by intro u hu; rw [List.mem_singleton] at hu; subst hu; rfl) rfl (by decide) (by decide) rfl fun v4 w4 x4 ho4 _ => ?_
    obtain ⟨d4, rfl⟩ := Hdr.of_sl (Sl.of_owns ho4)
    rw [build_i (new_join26 v d4)]
    refine box_i fun jb w5 x5 hj5 hjb _ => ?_
    refine alloc_i Ty.join_zero fun p7 w6 x6 hat6 hp7 hs6 => ?_
    refine store_i Ty.join_size hat6 (by show 0 < 1; decide) rfl fun w7 m7 hat7 hs7 => ?_
    have hat7 : At w7 p7 (.cells #[.pointer (some ⟨jb, 0, none⟩)] 78 (0, 0)) := hat7
    have z03 := x03.size
    have z4 := x4.size
    have z5 := x5.size
    have z6 := x6.size
    have x67 : Ext w5 w7 := ext_step x6 m7 (by omega)
    have x07 : Ext w w7 := ((x03.trans x4).trans x5).trans x67
    have hatx7 := (((((hatx.ext xW).ext x2).ext x3).ext x4).ext x5).ext x67
    rw [load_e (u := .pointer (some ⟨jb, 0, none⟩)) Ty.join_agg hat7 rfl, SBox.g_reps (has_of_at hatx7)]
    -- the function to range over
    refine callF_sh (fun _ _ => sh_mesh_joined_next_ok _ _) fun R0 hR0 => ?_
    unfold sh_mesh_joined_next
    refine box_i fun b2 w8 x8 hat8 hb2 hs8 => ?_
    refine box_i fun b3 w9 x9 hat9 hb3 hs9 => ?_
    rw [mk_func]
    refine hR0 _ _ ?_
    have x79 := x8.trans x9
    have x09 := x07.trans x79
    have z7 : w7.heap.size = w6.heap.size := hs7
    have hlj := hj5.lt
    let C : KC := ⟨w, w9.heap.size, jb, p7, b2, b3, v, s.reps⟩
    have hC : C.Ok := ⟨by show w.heap.size ≤ jb; omega, by show jb < w9.heap.size; omega, by show p7 < w9.heap.size; omega, by show b2 < w9.heap.size; omega, by show b3 < w9.heap.size; omega⟩
    have hreps := h.2
    have hgood : ∀ r ∈ b.2, Rep.okR r = true ∧ I64 r.first := fun r hr => ⟨hV.2.2.1 r hr, (hok r hr).2.1⟩
    have hlen : ∀ {k}, Msh.Grows v b.2 k (Msh.known v b.2) → k.length ≤ 2000 := fun hG => Nat.le_trans hG.len (Rep.follows_iff.1 (Msh.known_follows hgood)).1
    have offOld : ∀ {u : Value}, (∀ k, u.ownBlock = some k → k < C.D) → Off (fun x => x = C.D ∨ x = C.D + 1) u := fun hu k hk hor => by have := hu k hk; omega
    have hI0 : ∀ W', Ext w9 W' → w9.heap.size + 2 ≤ W'.heap.size → KInv C [] W' := fun W' x' z' => by
      have x49 : Ext w4 W' := ((x5.trans x67).trans x79).trans x'
      have ho4' : w4.ownsRow w.heap.size 26 1 d4.val 1 [u64v (Dig.sum [v])] := Own.mono ho4 (by omega)
      refine ⟨⟨v, ⟨none, 0, 0⟩, d4⟩, x09.trans x', z', ⟨rfl, ((hj5.ext x67).ext x79).ext x', SEntry.owns_nil _ _, Own.ext ho4' x49⟩, Off.none _ _ _, offOld fun k hk => ?_, (hat7.ext x79).ext x', (hat8.ext x9).ext x', hat9.ext x'⟩
      have := (Own.block ho4 hk).2
      show k < w9.heap.size
      omega
    refine ⟨_, _, rfl, by kernel_rfl, fun rl RR TT hRR0 hRRk hTTk hy => ?_⟩
    have xa : Ext w9 ((w9.alloc (.deferred (some []))).alloc (.loop rl)) := (Ext.alloc _ _).trans (Ext.alloc _ _)
    have za : ((w9.alloc (.deferred (some []))).alloc (.loop rl)).heap.size = w9.heap.size + 2 := by simp
    refine callF_sh (fun _ _ => sh_mesh_joined_next_1_ok (.func (.yield (w9.heap.size + 1)) #[] #[]) (.pointer (some ⟨b3, 0, none⟩)) (.pointer (some ⟨b2, 0, none⟩))) fun R1 hR1 => ?_
    unfold sh_mesh_joined_next_1
    refine loop0 (fun U => ∃ k, KInv C k U ∧ RR U ∧ Msh.Grows v b.2 k (Msh.known v b.2)) (fun U => 2001 - klen jb U) ⟨[], hI0 _ xa (by omega), hRR0, Msh.known_grows v b.2⟩ ?_
    rintro hh U ⟨k, hI, hRU, hG⟩ K2 hK2
    have hkl := hlen hG
    obtain ⟨sj, i1, i2, i3, i4, i5, i6, i7, i8⟩ := id hI
    rw [load_e (u := s.reps.val) Ty.reps_agg i8 rfl, load_e (u := .pointer (some ⟨jb, 0, none⟩)) Ty.join_agg i7 rfl, mk_func]
    refine callF_ret (mindexFunc_ret (p := Msh.fits v k) U (hreps.ext i1) fun i hi si W K X xU hrs hK => ?_) ?_
    · rw [callV_func (by kernel_rfl)]
      refine callF_ret (mfits_ret (base := w.heap.size) (hgood _ (List.getElem_mem hi)).1 (hgood _ (List.getElem_mem hi)).2 hkl W (i3.ext xU) hrs) ?_
      rintro _ W' ⟨rfl, xW'⟩
      exact hK W' xW'
    rintro _ U1 ⟨⟨n, rfl, hn⟩, xU1⟩
    have hI1 := hI.of_ext xU1
    have hDU : w9.heap.size + 1 < U.heap.size := by have : w9.heap.size + 2 ≤ U.heap.size := i2; omega
    have hRU1 : RR U1 := hRRk _ _ hRU (KeepL.of_ext xU1 hDU)
    rw [bin_lss]
    refine Gd_i (fun hneg => ?_) fun hneg => ?_
    · rcases hn with ⟨rfl, _⟩ | ⟨i, hi, rfl, hfit, hbefore⟩
      · exact absurd (dec_f hneg) (by omega)
      obtain ⟨pb, po, sr, hsr, hhr, hixr⟩ := hreps.at_ hi
      have i11 := i1.trans xU1
      rw [load_e (u := s.reps.val) Ty.reps_agg (i8.ext xU1) rfl, hixr, SReport.g_all (hhr U1 i11)]
      refine hy [.agg sr.cells.toArray] U1 _ _ rfl hRU1 ?_
      -- a round
      have hF := Msh.fits_iff.1 hfit
      have hG2 := Grows_find hG hi hfit hbefore
      obtain ⟨hgr, hgf⟩ := hgood _ (List.getElem_mem hi)
      obtain ⟨f1, f2, f3, f4⟩ := Msh.first_of hgr hgf
      generalize hr : b.2[i] = r at *
      have hoff : r.first - 1 = ((Msh.off r : Nat) : Int) := by unfold Msh.off; omega
      obtain ⟨q1, q2, q3, _⟩ := id hF
      refine SReport.var fun b8 V1 y1 hat81 hb8 => ?_
      have zU1 := xU1.size
      refine ⟨KeepL.of_ext y1 (by omega), fun o5 => ?_⟩
      have m5 := Mod.putObj V1 (w9.heap.size + 1) o5
      have hs5 : (V1.putObj (w9.heap.size + 1) o5).heap.size = V1.heap.size := by simp
      generalize V1.putObj (w9.heap.size + 1) o5 = V2 at *
      have zV1 := y1.size
      have hI2 : KInv C k V2 := (hI1.of_ext y1).loop hC m5
      have hat82 := hat81.mod m5 (by omega)
      obtain ⟨sj2, j1, j2, j3, j4, j5, j6, j7, j8⟩ := id hI2
      have hsr0 := hsr.2.2.1
      obtain ⟨a1, ha1, hs1⟩ := ents_drop hsr0 (k := k.length - Msh.off r) (by omega)
      refine draw_ext fun V3 y3 => ?_
      refine det_read _ (fun W' x K => Ty.SReport_f2) ?_
      refine det_read sr.ents.val (fun W' x K => load_cell Ty.ents_agg (has_at (has_of_at ((hat82.ext y3).ext x)) (d := 2) rfl rfl)) ?_
      refine det_read (.pointer (some ⟨jb, 0, none⟩)) (fun W' x K => load_e Ty.join_agg ((j6.ext y3).ext x) rfl) ?_
      refine det_read _ (fun W' x K => nil_ptr) ?_
      refine det_read _ (fun W' x K => Ty.SJoin_f1) ?_
      refine det_read sj2.ents.val (fun W' x K => load_cell Ty.ents_agg (has_at (has_of_at ((j3.2.1.ext y3).ext x)) (d := 1) rfl rfl)) ?_
      refine det_read _ (fun W' x K => SEntry.row_len (Sl.ext (Sl.of_owns j3.2.2.1) (y3.trans x))) ?_
      refine det_read _ (fun W' x K => Ty.SReport_f1) ?_
      refine det_read (.int .i64 sr.first) (fun W' x K => load_cell Ty.int_agg (has_at (has_of_at ((hat82.ext y3).ext x)) (d := 1) rfl rfl)) ?_
      refine det_read (.int .i64 ((k.length : Int) - r.first)) (fun W' x K => by rw [hsr.2.1, bin_sub, i64_wrap (by omega) (by omega)]) ?_
      refine det_read (.int .i64 ((k.length - Msh.off r : Nat) : Int)) (fun W' x K => by rw [bin_add, i64_wrap (by omega) (by omega), show (k.length : Int) - r.first + 1 = ((k.length - Msh.off r : Nat) : Int) by omega]) ?_
      refine det_read _ (fun W' x K => hs1 W' K _) ?_
      refine det_read _ (fun W' x K => SEntry.row_len (Sl.ext ha1 (j1.trans (y3.trans x)))) ?_
      intro V4 y4 _
      have y24 := y3.trans y4
      have hI4 := hI2.of_ext y24
      have hgrown : Msh.grown k r = k ++ r.ents.drop (k.length - Msh.off r) := rfl
      generalize hes : r.ents.drop (k.length - Msh.off r) = es at *
      have hesl : k.length + es.length ≤ 2000 := by
        have := hlen hG2
        rw [hgrown, List.length_append] at this; exact this
      have hesok : ∀ e ∈ es, e.Ok := fun e he => by
        have hrr := (hok r (by rw [← hr]; exact List.getElem_mem hi)).2.2.1
        rw [← hes] at he
        exact hrr e (List.mem_of_mem_drop he)
      refine loop1 (fun x V => ∃ j : Nat, j ≤ es.length ∧ x = .int .i64 j ∧ KInv C (k ++ es.take j) V ∧ KeepL w9.heap.size V2 V) (fun x _ => es.length - (intOf x).toNat) ⟨0, by omega, rfl, by rw [List.take_zero, List.append_nil]; exact hI4, KeepL.of_ext y24 (by omega)⟩ ?_
      rintro h42 _ V hx ⟨j, hj, rfl, hIV, hkeep⟩ K3 hK3
      rw [hx, bin_lss]
      refine Br_i (fun hb => ?_) fun hb => ?_
      · have hjl : j < es.length := by have := dec_t hb; omega
        have hIV0 := hIV
        have hDV : w9.heap.size + 2 ≤ V.heap.size := by obtain ⟨_, _, h2, _⟩ := hIV; exact h2
        have hkt : (k ++ es.take j).length ≤ 2000 := by rw [List.length_append, List.length_take]; omega
        have hkn : k ++ es.take (j + 1) = k ++ es.take j ++ [es[j]] := by rw [List.take_succ_eq_append_getElem hjl, List.append_assoc]
        have heok := hesok _ (List.getElem_mem hjl)
        generalize hkk : k ++ es.take j = kk at *
        generalize hee : es[j] = e at *
        obtain ⟨sv, v1, v2, ⟨v3, vj, vo, vc⟩, v4, v5, v6, v7, v8⟩ := hIV0
        have v1 : Ext w V := v1
        have vj : At V jb (.cells sv.cells.toArray 82 (0, 0)) := vj
        have vo : SEntry.Owns w.heap.size V sv.ents.val kk := vo
        have vc : V.ownsRow w.heap.size 26 1 sv.chains.val (chs v kk).length (uv (chs v kk)) := vc
        have v6 : At V p7 (.cells #[.pointer (some ⟨jb, 0, none⟩)] 78 (0, 0)) := v6
        obtain ⟨pe, oe, hhe, _, hixe⟩ := SEntry.row_at ha1 hjl
        rw [hee] at hhe
        rw [hixe, SEntry.g_all (hhe V v1)]
        refine SEntry.var fun b10 U2 z2 hat10 hb10 => ?_
        have zz2 := z2.size
        obtain ⟨ie, hie, hze, hse, hbe⟩ := Ty.info_parts Ty.SEntry_info
        have hec : Off (fun q => sv.ents.val.ownBlock = some q) sv.chains.val := Own.off_own vo vc (by decide)
        have voB : ∀ q, sv.ents.val.ownBlock = some q → w.heap.size ≤ q ∧ q < V.heap.size ∧ q ≠ jb ∧ q ≠ p7 ∧ q ≠ b2 ∧ q ≠ b3 := fun q hq => ⟨(Own.block vo hq).1, (Own.block vo hq).2, fun e => Own.off_at vo vj (by decide) q hq e, fun e => Own.off_at vo v6 (by decide) q hq e, fun e => Own.off_at vo v7 (by decide) q hq e, fun e => Own.off_at vo v8 (by decide) q hq e⟩
        have vcB : ∀ q, sv.chains.val.ownBlock = some q → w.heap.size ≤ q ∧ q < V.heap.size ∧ q ≠ jb ∧ q ≠ p7 ∧ q ≠ b2 ∧ q ≠ b3 := fun q hq => ⟨(Own.block vc hq).1, (Own.block vc hq).2, fun e => Own.off_at vc vj (by decide) q hq e, fun e => Own.off_at vc v6 (by decide) q hq e, fun e => Own.off_at vc v7 (by decide) q hq e, fun e => Own.off_at vc v8 (by decide) q hq e⟩
        have l10 := hat10.lt
        have ljb := vj.lt
        have l7 := v6.lt
        have l2 := At.lt v7
        have l3 := At.lt v8
        have cjb : w.heap.size ≤ jb := hC.1
        -- the entry
        refine drawF (fun q => sv.ents.val.ownBlock = some q ∨ U2.heap.size ≤ q) (fun _ => True) fun U3 z3 hs3 => ?_
        have z3s := z3.size
        have z23 := z2.trans z3
        have at7 : ∀ {W'}, MF (fun q => sv.ents.val.ownBlock = some q ∨ U2.heap.size ≤ q) (fun _ => True) U3 W' → At W' p7 (.cells #[.pointer (some ⟨jb, 0, none⟩)] 78 (0, 0)) := fun m => (v6.ext z23).mod m.1 fun hq => hq.elim (fun hq => (voB _ hq).2.2.2.1 rfl) fun hq => by omega
        have atj : ∀ {W'}, MF (fun q => sv.ents.val.ownBlock = some q ∨ U2.heap.size ≤ q) (fun _ => True) U3 W' → At W' jb (.cells sv.cells.toArray 82 (0, 0)) := fun m => (vj.ext z23).mod m.1 fun hq => hq.elim (fun hq => (voB _ hq).2.2.1 rfl) fun hq => by omega
        have at10 : ∀ {W'}, MF (fun q => sv.ents.val.ownBlock = some q ∨ U2.heap.size ≤ q) (fun _ => True) U3 W' → At W' b10 (.cells e.cells.toArray 89 (0, 0)) := fun {W'} m => (hat10.ext z3).mod m.1 fun hq => hq.elim (fun hq => by have := (voB _ hq).2.1; omega) fun hq => by omega
        refine det_f (.pointer (some ⟨jb, 0, none⟩)) (fun W' m K => load_e Ty.join_agg (at7 m) rfl) ?_
        refine det_f (.pointer (some ⟨jb, 0, none⟩)) (fun W' m K => load_e Ty.join_agg (at7 m) rfl) ?_
        refine det_f _ (fun W' m K => nil_ptr) ?_
        refine det_f _ (fun W' m K => Ty.SJoin_f1) ?_
        refine det_f sv.ents.val (fun W' m K => load_cell Ty.ents_agg (has_at (has_of_at (atj m)) (d := 1) rfl rfl)) ?_
        refine det_f _ (fun W' m K => SEntry.g_all (has_of_at (at10 m))) ?_
        refine thr_f (fun W => SEntry.Owns w.heap.size W sv.ents.val kk) (Own.ext vo z23) (fun a b h x => Own.ext h x) (fun vs W => ∃ x y, vs = [x, y] ∧ SEntry.Owns w.heap.size W y (kk ++ [e]) ∧ ∀ q, y.ownBlock = some q → sv.ents.val.ownBlock = some q ∨ U2.heap.size ≤ q) ?_ ?_
        · refine nd_f (fun x W => SEntry.Owns w.heap.size W sv.ents.val kk ∧ SEntry.Owns U2.heap.size W x [e]) (fun x a b h xx => ⟨Own.ext h.1 xx, Own.ext h.2 xx⟩) (fun W1 m hΘ => ?_) fun x => ?_
          · refine SEntry.row_lit [e] rfl (by decide) (by decide) rfl fun x W2 xx ho _ => ?_
            exact ⟨⟨.of_ext xx, fun _ => trivial⟩, Own.ext hΘ xx, Own.mono ho (by have := m.1.size; omega)⟩
          · refine nd_f (fun y W => SEntry.Owns w.heap.size W y (kk ++ [e]) ∧ ∀ q, y.ownBlock = some q → sv.ents.val.ownBlock = some q ∨ U2.heap.size ≤ q) (fun y a b h xx => ⟨Own.ext h.1 xx, h.2⟩) (fun W1 m hΘ => ?_) fun y => ?_
            · refine app_own3 (xs := fl SEntry.cells kk) (news := fl SEntry.cells [e]) Ty.SEntry_row hie hze hse hbe rfl (by decide) hΘ.1 (Sl.of_owns hΘ.2) (fl_one SEntry.one _) (by simp only [List.length_singleton]; omega) (by simp only [List.length_singleton]; omega) (by have := v1.size; have := m.1.size; omega) fun y W2 h2 hm hbl _ => ?_
              refine ⟨⟨hm.mono fun q _ hq => .inl hq, fun _ => trivial⟩, ?_, fun q hq => (hbl q hq).imp id fun h => by have := m.1.size; omega⟩
              rw [← fl_append] at h2
              show World.ownsRow _ _ _ _ _ (kk ++ [e]).length _
              rw [List.length_append]; exact h2
            · intro W m hΘ
              exact ⟨x, y, rfl, hΘ⟩
        rintro hh57 U4 m4 ⟨_, _, xl, ye, e4, ho4, hbl4⟩
        simp only [List.cons.injEq, and_true] at e4
        rw [nil_ptr, e4.2]
        obtain ⟨dE, rfl⟩ := Hdr.of_sl (Sl.of_owns ho4)
        refine SJoin.s_ents (x := dE) (atj m4) fun U5 m5j hj5' hs5' => ?_
        have z4s := m4.1.size
        have z5s := m5j.size
        let Z : Nat → Prop := fun q => sv.ents.val.ownBlock = some q ∨ sv.chains.val.ownBlock = some q ∨ q = jb ∨ V.heap.size ≤ q
        have mZ4 : Mod Z V U4 := (Mod.of_ext z23 : Mod Z V U3).trans (m4.1.mono fun q _ hq => hq.elim .inl fun hq => .inr (.inr (.inr (by omega))))
        have mZ5 : Mod Z V U5 := mZ4.trans (m5j.mono fun q _ hq => .inr (.inr (.inl hq)))
        have hoE5 : SEntry.Owns w.heap.size U5 dE.val (kk ++ [e]) := Own.mod ho4 m5j (Own.off_at ho4 (atj m4) (by decide))
        have hoC5 : U5.ownsRow w.heap.size 26 1 sv.chains.val (chs v kk).length (uv (chs v kk)) := Own.mod (Own.mod (Own.ext vc z23) m4.1 fun q hq hor => hor.elim (fun h => hec q hq h) fun h => by have := (vcB q hq).2.1; omega) m5j fun q hq h => (vcB q hq).2.2.1 h
        have at75 : At U5 p7 (.cells #[.pointer (some ⟨jb, 0, none⟩)] 78 (0, 0)) := (at7 m4).mod m5j (by intro h; have := Own.off_at vc v6 (by decide); exact absurd h (fun h => by
          have h6 := At.inj (at7 m4) (atj m4) (by decide)
          exact h6 h))
        have at105 : At U5 b10 (.cells e.cells.toArray 89 (0, 0)) := (at10 m4).mod m5j (by omega)
        -- the chain
        refine drawF (fun q => sv.chains.val.ownBlock = some q ∨ U5.heap.size ≤ q) (fun W => W.ownsRow w.heap.size 26 1 sv.chains.val (chs v kk).length (uv (chs v kk))) fun U6 z6 hs6 => ?_
        have hoC6 := Own.ext hoC5 z6
        have l105 := at105.lt
        have l75 := at75.lt
        have lj5 := hj5'.lt
        generalize hF2 : (fun W : World => W.ownsRow w.heap.size 26 1 sv.chains.val (chs v kk).length (uv (chs v kk))) = F2 at *
        have F2i : ∀ {W : World}, F2 W → W.ownsRow w.heap.size 26 1 sv.chains.val (chs v kk).length (uv (chs v kk)) := fun h => by rw [← hF2] at h; exact h
        have F2o : ∀ {W : World}, W.ownsRow w.heap.size 26 1 sv.chains.val (chs v kk).length (uv (chs v kk)) → F2 W := fun h => by rw [← hF2]; exact h
        have bt7 : ∀ {W'}, MF (fun q => sv.chains.val.ownBlock = some q ∨ U5.heap.size ≤ q) F2 U6 W' → At W' p7 (.cells #[.pointer (some ⟨jb, 0, none⟩)] 78 (0, 0)) := fun m => (at75.ext z6).mod m.1 fun hq => hq.elim (fun hq => (vcB _ hq).2.2.2.1 rfl) fun hq => by omega
        have btj : ∀ {W'}, MF (fun q => sv.chains.val.ownBlock = some q ∨ U5.heap.size ≤ q) F2 U6 W' → At W' jb (.cells ({ sv with ents := dE } : SJoin).cells.toArray 82 (0, 0)) := fun m => (hj5'.ext z6).mod m.1 fun hq => hq.elim (fun hq => (vcB _ hq).2.2.1 rfl) fun hq => by omega
        have bt10 : ∀ {W'}, MF (fun q => sv.chains.val.ownBlock = some q ∨ U5.heap.size ≤ q) F2 U6 W' → At W' b10 (.cells e.cells.toArray 89 (0, 0)) := fun {W'} m => (at105.ext z6).mod m.1 fun hq => hq.elim (fun hq => by have := (vcB _ hq).2.1; omega) fun hq => by omega
        have btc : ∀ {W'}, MF (fun q => sv.chains.val.ownBlock = some q ∨ U5.heap.size ≤ q) F2 U6 W' → Sl W' 1 sv.chains.val (chs v kk).length (uv (chs v kk)) := fun m => Sl.of_owns (F2i (m.2 (F2o hoC6)))
        have hcl := chs_len v kk
        obtain ⟨pc, hixc, hldc⟩ := u64_at2 (Sl.of_owns hoC6) (j := kk.length) (by omega)
        refine det_f (.pointer (some ⟨jb, 0, none⟩)) (fun W' m K => load_e Ty.join_agg (bt7 m) rfl) ?_
        refine det_f (.pointer (some ⟨jb, 0, none⟩)) (fun W' m K => load_e Ty.join_agg (bt7 m) rfl) ?_
        refine det_f _ (fun W' m K => nil_ptr) ?_
        refine det_f _ (fun W' m K => Ty.SJoin_f2) ?_
        refine det_f sv.chains.val (fun W' m K => load_cell Ty.u64s_agg (has_at (has_of_at (btj m)) (d := 2) rfl rfl)) ?_
        refine det_f (.pointer (some ⟨jb, 0, none⟩)) (fun W' m K => load_e Ty.join_agg (bt7 m) rfl) ?_
        refine det_f _ (fun W' m K => nil_ptr) ?_
        refine det_f _ (fun W' m K => Ty.SJoin_f2) ?_
        refine det_f sv.chains.val (fun W' m K => load_cell Ty.u64s_agg (has_at (has_of_at (btj m)) (d := 2) rfl rfl)) ?_
        refine det_f (.pointer (some ⟨jb, 0, none⟩)) (fun W' m K => load_e Ty.join_agg (bt7 m) rfl) ?_
        refine det_f _ (fun W' m K => nil_ptr) ?_
        refine det_f _ (fun W' m K => Ty.SJoin_f2) ?_
        refine det_f sv.chains.val (fun W' m K => load_cell Ty.u64s_agg (has_at (has_of_at (btj m)) (d := 2) rfl rfl)) ?_
        refine det_f _ (fun W' m K => (btc m).len Ty.u64s) ?_
        refine det_f (.int .i64 (kk.length : Int)) (fun W' m K => by rw [bin_sub, i64_wrap (by omega) (by omega), hcl, show ((kk.length + 1 : Nat) : Int) - 1 = (kk.length : Int) by omega]) ?_
        refine det_f _ (fun W' m K => hixc W' K _) ?_
        refine det_f (u64v (Rep.carry (Rep.begin v) kk)) (fun W' m K => by rw [hldc W' (btc m) K _, chs_get (Nat.le_refl _), List.take_length]) ?_
        refine det_f _ (fun W' m K => SEntry.g_all (has_of_at (bt10 m))) ?_
        refine thr_f F2 (F2o hoC6) (fun a b h x => F2o (Own.ext (F2i h) x)) (fun vs W => ∃ x y z u, vs = [x, y, z, u] ∧ W.ownsRow w.heap.size 26 1 u (chs v (kk ++ [e])).length (uv (chs v (kk ++ [e]))) ∧ ∀ q, u.ownBlock = some q → sv.chains.val.ownBlock = some q ∨ U5.heap.size ≤ q) ?_ ?_
        · refine nd_f (fun x W => F2 W ∧ Sl W 1 x (Rep.eints e).length (iv (Rep.eints e))) (fun x a b h xx => ⟨F2o (Own.ext (F2i h.1) xx), Sl.ext h.2 xx⟩) (fun W1 m hΘ => ?_) fun x => ?_
          · refine callF_ret (mentry_ret _ W1) ?_
            rintro x W2 ⟨ho, xx⟩
            exact ⟨⟨.of_ext xx, fun h => F2o (Own.ext (F2i h) xx)⟩, F2o (Own.ext (F2i hΘ) xx), Sl.of_owns ho⟩
          · refine nd_f (fun y W => F2 W ∧ y = u64v (Dig.next (Rep.carry (Rep.begin v) kk) (Rep.eints e))) (fun y a b h xx => ⟨F2o (Own.ext (F2i h.1) xx), h.2⟩) (fun W1 m hΘ => ?_) fun y => ?_
            · refine callF_ret (next_ret (l := Rep.eints e) (Rep.eints_ok heok) W1 hΘ.2 ?_) ?_
              · have mT : Mod (w.heap.size ≤ ·) w W1 := ((Mod.of_ext v1 : Mod (w.heap.size ≤ ·) w V).trans (mZ5.mono fun q _ hq => by
                  rcases hq with hq | hq | hq | hq
                  · exact (voB q hq).1
                  · exact (vcB q hq).1
                  · omega
                  · have := v1.size; omega)).trans ((Mod.of_ext z6).trans (m.1.mono fun q _ hq => hq.elim (fun h => (vcB q h).1) fun h => by have := v1.size; omega))
                exact hT.ext mT.new
              · rintro y W2 ⟨rfl, xx⟩
                exact ⟨⟨.of_ext xx, fun h => F2o (Own.ext (F2i h) xx)⟩, F2o (Own.ext (F2i hΘ.1) xx), rfl⟩
            · refine nd_f (fun z W => F2 W ∧ W.ownsRow U5.heap.size 26 1 z 1 [u64v (Dig.next (Rep.carry (Rep.begin v) kk) (Rep.eints e))]) (fun z a b h xx => ⟨F2o (Own.ext (F2i h.1) xx), Own.ext h.2 xx⟩) (fun W1 m hΘ => ?_) fun z => ?_
              · rw [hΘ.2]
                refine litn_i (n := 1) [u64v (Dig.next (Rep.carry (Rep.begin v) kk) (Rep.eints e))] Ty.u64s hiu hsu hzu (by intro u hu; rw [List.mem_singleton] at hu; subst hu; rfl) rfl (by decide) (by decide) rfl fun z W2 xx ho _ => ?_
                exact ⟨⟨.of_ext xx, fun h => F2o (Own.ext (F2i h) xx)⟩, F2o (Own.ext (F2i hΘ.1) xx), Own.mono ho (by have := m.1.size; have := z6.size; omega)⟩
              · refine nd_f (fun u W => W.ownsRow w.heap.size 26 1 u (chs v (kk ++ [e])).length (uv (chs v (kk ++ [e]))) ∧ ∀ q, u.ownBlock = some q → sv.chains.val.ownBlock = some q ∨ U5.heap.size ≤ q) (fun u a b h xx => ⟨Own.ext h.1 xx, h.2⟩) (fun W1 m hΘ => ?_) fun u => ?_
                · refine app_own3 (xs := uv (chs v kk)) Ty.u64s hiu hzu hsu hbu rfl (by decide) (F2i hΘ.1) (Sl.of_owns hΘ.2) (by intro u hu; rw [List.mem_singleton] at hu; subst hu; rfl) (by omega) (by omega) (by have := v1.size; have := m.1.size; have := z6.size; omega) fun u W2 h2 hm hbl hold => ?_
                  refine ⟨⟨hm.mono fun q _ hq => .inl hq, fun _ => F2o hold⟩, ?_, fun q hq => (hbl q hq).imp id fun h => by have := m.1.size; have := z6.size; omega⟩
                  rw [chs_snoc, List.length_append]
                  simp only [uv, List.map_append, List.map_cons, List.map_nil, List.length_singleton] at h2 ⊢
                  exact h2
                · intro W m hΘ
                  exact ⟨x, y, z, u, rfl, hΘ⟩
        rintro hh85 U7 m7z ⟨_, _, xa1, ya1, za1, uc1, e7, ho7, hbl7⟩
        simp only [List.cons.injEq, and_true] at e7
        rw [nil_ptr, e7.2.2.2]
        obtain ⟨dC, rfl⟩ := Hdr.of_sl (Sl.of_owns ho7)
        refine SJoin.s_chains (x := dC) (btj m7z) fun U8 m8j hj8 hs8' => ?_
        have z6s := z6.size
        have z7s := m7z.1.size
        have mZ7 : Mod Z V U7 := mZ5.trans ((Mod.of_ext z6).trans (m7z.1.mono fun q _ hq => hq.elim (fun h => .inr (.inl h)) fun h => .inr (.inr (.inr (by omega)))))
        have mZ8 : Mod Z V U8 := mZ7.trans (m8j.mono fun q _ hq => .inr (.inr (.inl hq)))
        have nZ : ∀ q, q < V.heap.size → sv.ents.val.ownBlock ≠ some q → sv.chains.val.ownBlock ≠ some q → q ≠ jb → ¬ Z q := fun q h1 h2 h3 h4 hz => by
          rcases hz with hz | hz | hz | hz
          · exact h2 hz
          · exact h3 hz
          · exact h4 hz
          · omega
        have hx8 : Ext w U8 := ((Mod.of_ext v1 : Mod (w.heap.size ≤ ·) w V).trans (mZ8.mono fun q _ hq => by
          rcases hq with hq | hq | hq | hq
          · exact (voB q hq).1
          · exact (vcB q hq).1
          · omega
          · have := v1.size; omega)).new
        have hoE8 : SEntry.Owns w.heap.size U8 dE.val (kk ++ [e]) := by
          refine Own.mod (Own.mod (Own.ext hoE5 z6) m7z.1 fun q hq hor => ?_) m8j (fun q hq h => ?_)
          · rcases hor with h | h
            · rcases hbl4 q hq with h4 | h4
              · exact hec q h h4
              · have := (vcB q h).2.1; omega
            · have := (Own.block hoE5 hq).2; omega
          · exact Own.off_at hoE5 hj5' (by decide) q hq h
        have hoC8 : U8.ownsRow w.heap.size 26 1 dC.val (chs v (kk ++ [e])).length (uv (chs v (kk ++ [e]))) := Own.mod ho7 m8j (Own.off_at ho7 (btj m7z) (by decide))
        have hpj : p7 ≠ jb := At.inj v6 vj (by decide)
        have h2j : b2 ≠ jb := At.inj (show At V b2 _ from v7) vj (by decide)
        have h3j : b3 ≠ jb := At.inj (show At V b3 _ from v8) vj (by decide)
        rw [bin_add, i64_wrap (by omega) (by omega)]
        refine hK3 _ _ ⟨j + 1, by omega, by simp, ?_, ?_⟩ (by simp [intOf]; omega)
        · rw [hkn]
          refine ⟨{ sv with ents := dE, chains := dC }, hx8, by have := mZ8.size; show w9.heap.size + 2 ≤ _; omega, ⟨v3, hj8, hoE8, hoC8⟩, fun q hq hor => ?_, fun q hq hor => ?_, v6.mod mZ8 (nZ _ l7 (fun h => (voB _ h).2.2.2.1 rfl) (fun h => (vcB _ h).2.2.2.1 rfl) hpj), At.mod v7 mZ8 (nZ _ l2 (fun h => (voB _ h).2.2.2.2.1 rfl) (fun h => (vcB _ h).2.2.2.2.1 rfl) h2j), At.mod v8 mZ8 (nZ _ l3 (fun h => (voB _ h).2.2.2.2.2 rfl) (fun h => (vcB _ h).2.2.2.2.2 rfl) h3j)⟩
          · rcases hbl4 q hq with h | h
            · exact v4 q h hor
            · have hor : q = w9.heap.size ∨ q = w9.heap.size + 1 := hor
              omega
          · rcases hbl7 q hq with h | h
            · exact v5 q h hor
            · have hor : q = w9.heap.size ∨ q = w9.heap.size + 1 := hor
              omega
        · have hjD : jb < w9.heap.size := hC.2.1
          have k8 : KeepL w9.heap.size V U8 := KeepL.of_mod mZ8 (by omega) (nZ _ (by omega) (fun h => v4 _ h (.inl rfl)) (fun h => v5 _ h (.inl rfl)) (by omega)) (nZ _ (by omega) (fun h => v4 _ h (.inr rfl)) (fun h => v5 _ h (.inr rfl)) (by omega))
          exact ⟨k8.1.trans hkeep.1, k8.2.trans hkeep.2⟩
      · have hje : j = es.length := by have := dec_f hb; omega
        subst hje
        rw [List.take_length, ← hgrown] at hIV
        refine ⟨hkeep, fun o9 hR9 => ?_⟩
        have m9 := Mod.putObj V (w9.heap.size + 1) o9
        have hI9 := hIV.loop hC m9
        show DoV Tryz.prog (Op.unary .not (.bool true)) _ _ _
        rw [un_not]
        refine br_f (hK2 _ ⟨_, hI9, hR9, hG2⟩ ?_)
        rw [hI9.klen, hI.klen]
        have := hlen hG2
        have := Msh.grown_gt hF
        omega
    · have hnone : ∀ x ∈ b.2, Msh.fits v k x = false := by
        rcases hn with ⟨rfl, h⟩ | ⟨i, hi, rfl, _, _⟩
        · exact h
        · exact absurd (dec_t (by simpa using hneg)) (by omega)
      have hkk := Grows_none hG hnone
      refine hR1 _ _ (.inl ⟨hRU1, fun o ho => ?_⟩)
      have m9 := Mod.putObj U1 (w9.heap.size + 1) o
      have hI9 := hI1.loop hC m9
      generalize U1.putObj (w9.heap.size + 1) o = U2 at *
      obtain ⟨sv, v1, v2, ⟨v3, vj, vo, vc⟩, v4, v5, v6, v7, v8⟩ := hI9
      have hcl := chs_len v k
      have hch := Sl.of_owns vc
      obtain ⟨pc, hixc, hldc⟩ := u64_at2 hch (j := k.length) (by show k.length < (chs v k).length; omega)
      have v6 : At U2 p7 (.cells #[.pointer (some ⟨jb, 0, none⟩)] 78 (0, 0)) := v6
      have vj : At U2 jb (.cells sv.cells.toArray 82 (0, 0)) := vj
      refine draw_ext fun U3 y3 => ?_
      refine det_read (.pointer (some ⟨jb, 0, none⟩)) (fun W' x K => load_e Ty.join_agg ((v6.ext y3).ext x) rfl) ?_
      refine det_read _ (fun W' x K => nil_ptr) ?_
      refine det_read _ (fun W' x K => Ty.SJoin_f1) ?_
      refine det_read sv.ents.val (fun W' x K => load_cell Ty.ents_agg (has_at (has_of_at ((vj.ext y3).ext x)) (d := 1) rfl rfl)) ?_
      refine det_read (.pointer (some ⟨jb, 0, none⟩)) (fun W' x K => load_e Ty.join_agg ((v6.ext y3).ext x) rfl) ?_
      refine det_read _ (fun W' x K => nil_ptr) ?_
      refine det_read _ (fun W' x K => Ty.SJoin_f2) ?_
      refine det_read sv.chains.val (fun W' x K => load_cell Ty.u64s_agg (has_at (has_of_at ((vj.ext y3).ext x)) (d := 2) rfl rfl)) ?_
      refine det_read (.pointer (some ⟨jb, 0, none⟩)) (fun W' x K => load_e Ty.join_agg ((v6.ext y3).ext x) rfl) ?_
      refine det_read _ (fun W' x K => nil_ptr) ?_
      refine det_read _ (fun W' x K => Ty.SJoin_f2) ?_
      refine det_read sv.chains.val (fun W' x K => load_cell Ty.u64s_agg (has_at (has_of_at ((vj.ext y3).ext x)) (d := 2) rfl rfl)) ?_
      refine det_read _ (fun W' x K => (Sl.ext hch (y3.trans x)).len Ty.u64s) ?_
      refine det_read (.int .i64 (k.length : Int)) (fun W' x K => by
        show DoV _ (binS _ _ _ _ (.int .i64 ((chs v k).length : Int)) _) _ _ _ = _
        rw [bin_sub, i64_wrap (by omega) (by omega), hcl, show ((k.length + 1 : Nat) : Int) - 1 = (k.length : Int) by omega]) ?_
      refine det_read _ (fun W' x K => hixc W' K _) ?_
      refine det_read (u64v (Rep.carry (Rep.begin v) k)) (fun W' x K => by
        rw [hldc W' (Sl.ext hch (y3.trans x)) K _]
        show K (u64v ((chs v k)[k.length]'(by omega))) W' = _
        rw [chs_get (Nat.le_refl _), List.take_length]) ?_
      intro U4 y4 _
      have y24 := y3.trans y4
      have h0D : U2.heap[w9.heap.size]? = some (.deferred (some [])) := ho
      refine mark_i ((At.ext (show At U2 w9.heap.size _ from h0D) y24)) fun U5 m5 hs5 => ?_
      refine hR _ _ ⟨sv.ents.val, ?_, ?_, ?_⟩
      · rw [knownV_ok hV vi, hkk]
      · rw [knownV_ok hV vi, hkk]
        exact Sl.of_owns (Own.mod (Own.ext vo y24) m5 fun q hq h => v4 q hq (.inl h))
      · have x4 : Ext w U4 := Ext.trans v1 y24
        exact ext_step x4 m5 (by omega)
  · refine join1 (fun x W => Ext w1 W ∧ ∃ c, x = .bool c ∧ (c = false → bvalid b = true ∧ Rep.isID v = true) ∧ (c = true → bvalid b = false ∨ Rep.isID v = false)) ?_ fun K3 hK3 => ?_
    · rintro h5 _ W hx ⟨xW, c, rfl, hc1, hc2⟩
      rw [hx]
      refine Br_i (fun hc => ?_) fun hc => hK _ _ _ _ ⟨rfl, rfl, rfl, xW, hc1 hc⟩
      have e : knownV b v = ([], 0, 1) := by unfold knownV; rw [if_pos (hc2 hc)]
      refine hR _ _ ⟨.slice none 0 0, ?_, ?_, x1.trans xW⟩
      · rw [e]; rfl
      · rw [e]; exact SEntry.row_nil _
    rw [SBox.g_all (has_of_at hatx)]
    refine callF_ret (mvalid_ret hok w1 (h.ext x1) (hT.ext x1)) ?_
    rintro _ w2 ⟨rfl, x2⟩
    rw [un_not]
    refine Gd_i (fun hbi => ?_) fun hbi => ?_
    · refine callF_same (misID_ret _ w2) ?_
      rw [un_not]
      exact hK3 _ _ ⟨x2, _, rfl, fun h => ⟨by simpa using hbi, by simpa using h⟩, fun h => .inr (by simpa using h)⟩
    · exact hK3 _ _ ⟨x2, _, rfl, fun h => (by cases h), fun _ => .inl (by simpa using hbi)⟩
end Go.Proofs.YtohmledhhgdgaaaGreatDoor
