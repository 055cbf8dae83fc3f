/- The laws of boxes: what stands at the head of each law. -/
import Derived.Test.YtohmledhhgdgaaaGreatDoorGMshR
set_option linter.unusedVariables false
set_option linter.unusedSimpArgs false
namespace Go.Proofs.YtohmledhhgdgaaaGreatDoor
set_option maxRecDepth 100000
set_option maxHeartbeats 16000000
open Sh Go.RowKit
def pc (a : Nat × Nat) : List Value := [.int .i64 (a.1 : Int), .int .i64 (a.2 : Int)]
theorem pc_len (a : Nat × Nat) : (pc a).length = 2 := rfl
namespace Ty
theorem pairs26 : Tryz.prog.underlying 65 = some (.slice 64) := by kernel_rfl
theorem pair_und26 : Tryz.prog.underlying 64 = some (.array 2 3) := by kernel_rfl
theorem pair_info26 : (Tryz.prog.info? 64).map (fun i => (i.zero, i.size, i.bytes)) = some (some (pr 0 0), 2, 16) := by kernel_rfl
end Ty
theorem pair_ix0 {g : Nat} {w : World} {K : Value → World → Prop} {X : List PanicEntry → World → Prop} : DoV Tryz.prog (Instr.indexAt 64 (.pointer (some ⟨g, 0, none⟩)) (.int .i64 0)) w K X = K (.pointer (some ⟨g, 0, none⟩)) w := by
  obtain ⟨ii, hii, _, his, _⟩ := Ty.info_parts Ty.int_info
  exact index_arr (k := .i64) (j := 0) Ty.pair_und26 hii his (by decide)
theorem pair_ix1 {g : Nat} {w : World} {K : Value → World → Prop} {X : List PanicEntry → World → Prop} : DoV Tryz.prog (Instr.indexAt 64 (.pointer (some ⟨g, 0, none⟩)) (.int .i64 1)) w K X = K (.pointer (some ⟨g, 1, none⟩)) w := by
  obtain ⟨ii, hii, _, his, _⟩ := Ty.info_parts Ty.int_info
  exact index_arr (k := .i64) (j := 1) Ty.pair_und26 hii his (by decide)
theorem pair_var {w : World} {K : Value → World → Prop} {X1 X2 : List PanicEntry → World → Prop} {a : Nat × Nat} (hk : ∀ b w2, Ext w w2 → At w2 b (.cells (pc a).toArray 64 (0, 0)) → w.heap.size ≤ b → K (.pointer (some ⟨b, 0, none⟩)) w2) :
    DoV Tryz.prog (Instr.alloc 64 true (.tuple #[])) w (fun t w1 => DoU Tryz.prog (Instr.storeAt 64 t (.agg (pc a).toArray)) w1 (fun _ w2 => K t w2) X1) X2 := by
  refine alloc_i Ty.pair_zero fun b w1 x1 hat hb _ => ?_
  refine pair_set (a := a.1) (b := a.2) (c := .int .i64 0) (d := .int .i64 0) hat fun w2 m2 h2 _ => ?_
  exact hk _ _ ((Mod.of_ext x1 : Mod (w.heap.size ≤ ·) w w1).trans (m2.mono fun k _ h => by omega)).new h2 (by omega)
theorem gd_e {A B : Prop} {a : Int} (h : A) : Gd (.bool (decide (a = a))) true A B := Gd_i (fun _ => h) fun hh => by rw [decide_eq_true rfl] at hh; cases hh
theorem gd_n {A B : Prop} {a : Int} (h : A) : Gd (.bool (!decide (a = a))) false A B := Gd_i (fun _ => h) fun hh => by rw [decide_eq_true rfl] at hh; cases hh
theorem gd_d {A B : Prop} {p : Prop} [Decidable p] (hp : p) (h : A) : Gd (.bool (decide p)) true A B := Gd_i (fun _ => h) fun hh => by rw [decide_eq_true hp] at hh; cases hh
namespace Msh
def ps : List (Nat × Nat) := [(6, 6), (2, 4), (1, 2)]
noncomputable def bx : Nat → List Rep.Rpt
  | 0 => []
  | 1 => [r1]
  | 2 => [r2, r1]
  | _ => [r3, r2, r1]
noncomputable def rs : Nat → Rep.Rpt
  | 0 => r1
  | 1 => r2
  | _ => r3
theorem step_ok {k : Nat} (h : k < 3) : ∃ a : Nat × Nat, ps[k]? = some a ∧ I64 a.1 ∧ Rep.makeV (exM 6) a.1 a.2 ((5 : Nat) : Int) ((7 : Nat) : Int) = (rs k, 0) ∧ RepOk (rs k) ∧ addV (1, bx k) (rs k) 1024 = ((1, bx (k + 1)), true, 0) := by
  match k, h with
  | 0, _ => exact ⟨(6, 6), rfl, by unfold I64; decide, mk (by decide) (by decide) (by decide) (by decide), rp_repok (by decide) (by decide), add1.1⟩
  | 1, _ => exact ⟨(2, 4), rfl, by unfold I64; decide, mk (by decide) (by decide) (by decide) (by decide), rp_repok (by decide) (by decide), add2.1⟩
  | 2, _ => exact ⟨(1, 2), rfl, by unfold I64; decide, mk (by decide) (by decide) (by decide) (by decide), rp_repok (by decide) (by decide), add3.1⟩
theorem bx_ok : ∀ k, ∀ r ∈ bx k, RepOk r := by
  have h1 : RepOk r1 := rp_repok (by decide) (by decide)
  have h2 : RepOk r2 := rp_repok (by decide) (by decide)
  have h3 : RepOk r3 := rp_repok (by decide) (by decide)
  intro k r hr
  match k with
  | 0 => simp [bx] at hr
  | 1 => simp only [bx, List.mem_cons, List.not_mem_nil, or_false] at hr; subst hr; exact h1
  | 2 => simp only [bx, List.mem_cons, List.not_mem_nil, or_false] at hr; rcases hr with rfl | rfl <;> assumption
  | k + 3 => simp only [bx, List.mem_cons, List.not_mem_nil, or_false] at hr; rcases hr with rfl | rfl | rfl <;> assumption
theorem r4_ok : RepOk r4 := rp_repok (by decide) (by decide)
end Msh
open Msh in
theorem head26_ret (w : World) (hT : Tab w) : Ret Tryz.prog 9 #[] w (TrueQ w) := by
  refine ret_of (fun _ _ => sh_landfalllaw26_head_ok) fun R hR => ?_
  unfold sh_landfalllaw26_head
  obtain ⟨ii, hii, hzi, his, _⟩ := Ty.info_parts Ty.int_info
  obtain ⟨ipr, hipr, hzpr, hspr, hbpr⟩ := Ty.info_parts Ty.pair_info26
  have hLok := exM_ok 6 (by decide)
  refine callF_ret (example26_ret (n := 6) (by decide) w) ?_
  rintro _ w1 ⟨⟨g, rfl, hg⟩, x1⟩
  refine SLog.var fun b1 w2 x2 hat1 hb1 => ?_
  rw [build_i (new_veh26 1)]
  refine SBox.var fun c2 w3 x3 hat2 hc2 => ?_
  rw [pair_i, pair_i, pair_i]
  refine lit_els (c := pc) (fun a => Value.agg (pc a).toArray) ps Ty.pairs26 hipr hzpr hspr (by decide) pc_len (fun _ => rfl) rfl (by decide) (by decide) rfl fun v4 w4 x4 ho4 _ => ?_
  rw [(Sl.of_owns ho4).len Ty.pairs26]
  have z1 := x1.size; have z2 := x2.size; have z3 := x3.size; have z4 := x4.size
  have lc2 := hat2.lt
  have lb1 := hat1.lt
  have x02 := x1.trans x2
  have x24 := x3.trans x4
  refine loop1 (fun x W => ∃ (k : Nat) (s : SBox), k ≤ 3 ∧ x = .int .i64 k ∧ Ext w2 W ∧ At W c2 (.cells s.cells.toArray 24 (0, 0)) ∧ W.ownsRow w3.heap.size 64 2 v4 ps.length (fl pc ps) ∧ LiveB (· = c2) W s (1, bx k)) (fun x _ => 3 - (intOf x).toNat)
    ⟨0, ⟨1, ⟨none, 0, 0⟩⟩, by omega, rfl, x24, hat2.ext x4, ho4, ⟨rfl, LiveR.nil _ _⟩⟩ ?_
  rintro hh _ W hx ⟨k, s, hk, rfl, xW, hc, ho, hl⟩ K hK
  have zW := xW.size
  have lcW := hc.lt
  have hps : ps.length = 3 := rfl
  rw [hx, bin_lss, hps]
  refine Br_i (fun hb => ?_) fun hb => ?_
  · have hlt : k < 3 := by have := dec_t hb; omega
    obtain ⟨a, hak, hia, hmk, hrok, hadd⟩ := step_ok hlt
    obtain ⟨hkl, hae⟩ := List.getElem?_eq_some_iff.1 hak
    refine join0 (fun W' => ∃ s' : SBox, Ext w2 W' ∧ At W' c2 (.cells s'.cells.toArray 24 (0, 0)) ∧ W'.ownsRow w3.heap.size 64 2 v4 ps.length (fl pc ps) ∧ LiveB (· = c2) W' s' (1, bx (k + 1))) ?_ fun K2 hK2 => ?_
    · rintro _ W' ⟨s', y1, y2, y3, y4⟩
      rw [bin_add, i64_wrap (by omega) (by omega)]
      exact hK _ _ ⟨k + 1, s', by omega, by simp, y1, y2, y3, y4⟩ (by simp [intOf]; omega)
    obtain ⟨pb, po, hpc, _, hix⟩ := Sl.el (c := pc) (sz := 2) pc_len (Sl.of_owns ho) Ty.pairs26 hipr hspr (k := .i64) hkl (by decide)
    rw [hae] at hpc
    rw [hix, load_arr (n := 2) (xs := pc a) Ty.pair_agg Ty.pair_size rfl hpc]
    refine pair_var fun b4 w5 x5 hat4 hb4 => ?_
    rw [SLog.g_all (has_of_at ((hat1.ext xW).ext x5)), pair_ix0, load_e (u := .int .i64 (a.1 : Int)) Ty.int_agg hat4 rfl, pair_ix1, load_e (u := .int .i64 (a.2 : Int)) Ty.int_agg hat4 rfl]
    have x25 := xW.trans x5
    have x05 := x02.trans x25
    refine callF_ret (Make_ret (s := ((5 : Nat) : Int)) (o := ((7 : Nat) : Int)) hLok hia (by show 6 < _; decide) w5 (hg.ext (x2.trans x25)) (hT.ext x05)) ?_
    rintro _ w6 ⟨r, rfl, hr, x6, _⟩
    rw [hmk] at hr ⊢
    have hr : RepIs w6 r (rs k) := hr
    rw [ext2_0, ext2_1]
    refine SReport.var fun b5 w7 x7 hat5 hb5 => ?_
    have x57 := x6.trans x7
    have xW7 := x5.trans x57
    have hc7 := hc.ext xW7
    have z7 := xW7.size
    rw [SBox.g_all (has_of_at hc7), SReport.g_all (has_of_at hat5)]
    refine callF_ret (mAdd_ret (B := (· = c2)) (b := (1, bx k)) (p := 1024) hrok (bx_ok k) w7 (hl.ext xW7) (hr.ext x7) (fun q hq => by omega) (hT.ext (x05.trans x57))) ?_
    rintro _ w8 ⟨s8, rfl, hs8, x8⟩
    rw [hadd] at hs8 ⊢
    rw [ext3_0, ext3_1, ext3_2]
    refine SBox.var fun b7 w9 x9 hat7 hb7 => ?_
    have xW9 := xW7.trans (x8.trans x9)
    have hc9 := hc.ext xW9
    refine join0 (fun W' => W' = w9) ?_ fun K3 hK3 => ?_
    · rintro _ _ rfl
      rw [SBox.g_all (has_of_at hat7)]
      refine SBox.set (s := s8) hc9 fun w10 m10 hat10 _ => ?_
      have l7 := hat7.lt
      refine hK2 _ ⟨s8, ext_step (xW.trans xW9) m10 (by omega), hat10, ?_, (hs8.ext x9).mod m10⟩
      exact Own.mod (Own.ext ho xW9) m10 (Own.off_at (Own.ext ho xW9) hc9 (by decide))
    · refine join1 (fun x W' => x = .bool false ∧ W' = w9) ?_ fun K4 hK4 => ?_
      · rintro h5 _ _ hx5 ⟨rfl, rfl⟩
        rw [hx5]
        exact br_f (hK3 _ rfl)
      rw [bin_neq]
      refine gd_n ?_
      rw [bin_neq]
      refine gd_n ?_
      rw [un_not]
      exact hK4 _ _ ⟨rfl, rfl⟩
  · have hke : k = 3 := by have := dec_f hb; omega
    subst hke
    have hl : LiveB (· = c2) W s (1, [r3, r2, r1]) := hl
    have hok3 : ∀ x ∈ ((1, [r3, r2, r1]) : Int × List Rep.Rpt).2, RepOk x := bx_ok 3
    have hBc : ∀ {W' : World}, Ext W W' → ∀ q, q = c2 → q < W'.heap.size := fun x q hq => by have := x.size; omega
    have x0W := x02.trans xW
    rw [SBox.g_all (has_of_at hc)]
    refine callF_ret (mKnown_ret hok3 (by unfold I64; decide) W hl.is (hT.ext x0W)) ?_
    rintro _ u1 ⟨a1, rfl, ha1, y1⟩
    rw [known3V] at ha1 ⊢
    rw [ext3_0, ext3_1, ext3_2, SBox.g_all (has_of_at (hc.ext y1))]
    refine callF_ret (mKnown_ret hok3 (by unfold I64; decide) u1 (hl.ext y1).is (hT.ext (x0W.trans y1))) ?_
    rintro _ u2 ⟨a2, rfl, ha2, y2⟩
    rw [known4V] at ha2 ⊢
    have yW2 := y1.trans y2
    rw [ext3_0, ext3_1, ext3_2, SLog.g_all (has_of_at ((hat1.ext xW).ext yW2))]
    have hgW : LogIs W g (exM 6) := hg.ext (x2.trans xW)
    refine callF_ret (Make_ret (f := ((5 : Nat) : Int)) (l := ((5 : Nat) : Int)) (s := ((5 : Nat) : Int)) (o := ((8 : Nat) : Int)) hLok (by unfold I64; decide) (by show 6 < _; decide) u2 (hgW.ext yW2) (hT.ext (x0W.trans yW2))) ?_
    rintro _ u3 ⟨r, rfl, hr, y3, _⟩
    rw [show Rep.makeV (exM 6) ((5 : Nat) : Int) ((5 : Nat) : Int) ((5 : Nat) : Int) ((8 : Nat) : Int) = (r4, 0) from mk (by decide) (by decide) (by decide) (by decide)] at hr ⊢
    have hr : RepIs u3 r r4 := hr
    rw [ext2_0, ext2_1]
    refine SReport.var fun b16 u4 y4 hat16 hb16 => ?_
    have yW4 := yW2.trans (y3.trans y4)
    rw [SBox.g_all (has_of_at (hc.ext yW4)), SReport.g_all (has_of_at hat16)]
    refine callF_ret (mAdd_ret (B := (· = c2)) (b := (1, [r3, r2, r1])) (p := 4096) r4_ok hok3 u4 (hl.ext yW4) (hr.ext y4) (hBc yW4) (hT.ext (x0W.trans yW4))) ?_
    rintro _ u5 ⟨s5, rfl, hs5, y5⟩
    rw [add_not] at hs5 ⊢
    rw [ext3_0, ext3_1, ext3_2]
    refine SBox.var fun b18 u6 y6 hat18 hb18 => ?_
    have y46 := y5.trans y6
    have yW6 := yW4.trans y46
    rw [SBox.g_all (has_of_at (hc.ext yW6)), SReport.g_all (has_of_at (hat16.ext y46))]
    refine callF_ret (mAdd_ret (B := (· = c2)) (b := (1, [r3, r2, r1])) (p := 1024) r4_ok hok3 u6 (hl.ext yW6) (hr.ext (y4.trans y46)) (hBc yW6) (hT.ext (x0W.trans yW6))) ?_
    rintro _ u7 ⟨s7, rfl, hs7, y7⟩
    rw [add4.1] at hs7 ⊢
    rw [ext3_0, ext3_1, ext3_2]
    refine SBox.var fun b21 u8 y8 hat21 hb21 => ?_
    have yW8 := yW6.trans (y7.trans y8)
    rw [SBox.g_all (has_of_at hat21)]
    have hok4 : ∀ x ∈ ((1, [r3, r2, r4, r1]) : Int × List Rep.Rpt).2, RepOk x := fun x hx => by
      simp only [List.mem_cons, List.not_mem_nil, or_false] at hx
      rcases hx with rfl | rfl | rfl | rfl
      · exact bx_ok 3 _ (by simp [bx])
      · exact bx_ok 3 _ (by simp [bx])
      · exact r4_ok
      · exact bx_ok 3 _ (by simp [bx])
    refine callF_ret (mKnown_ret hok4 (by unfold I64; decide) u8 (hs7.ext y8).is (hT.ext (x0W.trans yW8))) ?_
    rintro _ u9 ⟨a3, rfl, ha3, y9⟩
    rw [knownAV] at ha3 ⊢
    have yW9 := yW8.trans y9
    rw [ext3_0, ext3_1, ext3_2, SLog.g_all (has_of_at ((hat1.ext xW).ext yW9))]
    refine callF_ret (Chain_ret (last := ((6 : Nat) : Int)) hLok u9 (hgW.ext yW9) (hT.ext (x0W.trans yW9))) ?_
    rintro _ u10 ⟨rfl, y10⟩
    have hch : Rep.chainV (exM 6) ((6 : Nat) : Int) = (Rep.carry (Rep.begin 3) (exM 6).ents, 0) := by
      have := Rep.chainV_ok exM_valid (n := 6) (Nat.le_refl 6)
      rw [List.take_of_length_le (show (exM 6).ents.length ≤ 6 from Nat.le_refl 6)] at this
      exact this
    rw [hch]
    have yW10 := yW9.trans y10
    rw [ext2_0, ext2_1, SBox.g_all (has_of_at (hc.ext yW10)), build_i new_nobox]
    refine callF_ret (mMerge_ret (B := (· = c2)) (a := (1, [r3, r2, r1])) (b := (0, [])) hok3 (fun x hx => by cases hx) u10 (hl.ext yW10) (LiveB.zero _ _) (hBc yW10) (hT.ext (x0W.trans yW10))) ?_
    rintro _ u11 ⟨s11, rfl, hs11, y11⟩
    rw [merge_no]
    rw [ext2_0, ext2_1]
    refine SBox.var fun b29 u12 y12 hat29 hb29 => ?_
    have y10_12 := y11.trans y12
    have yW12 := yW10.trans y10_12
    have hgl : LogIs u12 g (exM 6) := hgW.ext yW12
    have hat1e := (hat1.ext xW).ext yW12
    refine join1 (fun x W' => x = .bool true ∧ W' = u12) ?_ fun K5 hK5 => ?_
    · rintro h31 _ _ hx31 ⟨rfl, rfl⟩
      rw [hx31]
      refine gd_t ?_
      rw [un_not]
      refine gd_t (gd_t ?_)
      have x18 := (y7.trans y8).trans (y9.trans (y10.trans y10_12))
      rw [SBox.g_all (has_of_at (hat18.ext x18)), SBox.g_all (has_of_at (hc.ext yW12))]
      refine callF_ret (msame_ret (a := (1, [r3, r2, r1])) (b := (1, [r3, r2, r1])) _ (hs5.ext (y6.trans x18)).is (hl.ext yW12).is) ?_
      rintro _ u13 ⟨rfl, y13⟩
      refine gd_d rfl ?_
      rw [SLog.g_ents (has_of_at (hat1e.ext y13))]
      refine SEntry.row_upto (k := 4) (hgl.ext y13).2.2 (by show 4 ≤ 6; decide) fun v14 hv14 => ?_
      have y2_13 := (y2.trans (y3.trans y4)).trans ((y46.trans x18).trans y13)
      refine callF_ret (SameEntries_ret u13 (Sl.ext ha1 y2_13) hv14) ?_
      rintro _ u14 ⟨rfl, y14⟩
      refine gd_d rfl ?_
      rw [SEntry.row_len (Sl.ext ha2 ((y3.trans y4).trans (((y46.trans x18).trans y13).trans y14))), bin_eql]
      refine gd_d rfl ?_
      refine callF_ret (Begin_ret (n := 4) (by unfold I64; decide) u14) ?_
      rintro _ u15 ⟨rfl, y15⟩
      rw [u64_eql]
      refine gd_d rfl ?_
      rw [SLog.g_ents (has_of_at ((hat1e.ext y13).ext (y14.trans y15)))]
      have y13_15 := y13.trans (y14.trans y15)
      refine callF_ret (SameEntries_ret u15 (Sl.ext ha3 ((y10.trans y10_12).trans y13_15)) (hgl.ext y13_15).2.2) ?_
      rintro _ u16 ⟨rfl, y16⟩
      refine gd_d rfl ?_
      rw [u64_eql, decide_eq_true rfl]
      exact hR _ _ ⟨rfl, x0W.trans (yW12.trans (y13_15.trans y16))⟩
    · rw [bin_eql]; refine gd_e ?_
      rw [bin_eql]; refine gd_e ?_
      rw [bin_eql]; refine gd_e ?_
      rw [bin_eql]; refine gd_e ?_
      rw [bin_eql]; refine gd_e ?_
      rw [bin_eql]; refine gd_e ?_
      rw [bin_eql]; refine gd_e ?_
      rw [bin_eql]
      exact hK5 _ _ ⟨rfl, rfl⟩
end Go.Proofs.YtohmledhhgdgaaaGreatDoor
