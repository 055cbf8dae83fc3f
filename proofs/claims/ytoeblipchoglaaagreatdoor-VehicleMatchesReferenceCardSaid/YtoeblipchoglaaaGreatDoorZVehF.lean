/- The walks of vehicles: New, and the reference implementation. -/
import Derived.Test.YtoeblipchoglaaaGreatDoorZVehX
namespace Go.Proofs.YtoeblipchoglaaaGreatDoor
set_option maxRecDepth 100000
set_option maxHeartbeats 8000000
open Sh Go.RowKit
theorem vehNumber_ret (n : Int) (w : World) : Ret Tryz.prog 29 #[.int .i64 n] w fun r w' => r = .bool (Rep.isID n) ∧ w' = w := by
  refine ret_of (fun _ _ => sh_landfallref41_number_ok _) fun R hR => ?_
  unfold sh_landfallref41_number
  rw [bin_geq]
  refine Gd_i (fun h1 => ?_) fun h1 => hR _ _ ⟨by rw [Rep.isID, decide_eq_false (show ¬ (1 ≤ n ∧ n ≤ 1000000) by have := dec_f h1; omega)], rfl⟩
  rw [bin_leq]
  have h1 := dec_t h1
  refine hR _ _ ⟨?_, rfl⟩
  rw [Rep.isID]
  congr 1
  rw [decide_eq_decide]; omega
theorem chained_ret {v : Value} {rs : List SRecord} {id : Int} (hid : I64 id) (hok : ∀ r ∈ rs, r.Ok) (w : World) (hv : SRecord.Row w v rs) : Ret Tryz.prog 54 #[v, .int .i64 id] w fun r w' => r = .bool (Veh.chained (Rep.begin id) rs) ∧ Ext w w' := by
  refine ret_of (fun _ _ => sh_landfallref41_Chained_ok _ _) fun R hR => ?_
  unfold sh_landfallref41_Chained
  have hle := hv.le
  refine callF_ret (Begin_ret hid w) ?_
  rintro _ w1 ⟨rfl, x1⟩
  refine loop2 (fun x y W => ∃ (k : Nat) (c : BitVec 64), k ≤ rs.length ∧ y = .int .i64 k ∧ x = u64v c ∧ Ext w W ∧ Veh.chained (Rep.begin id) rs = Veh.chained c (rs.drop k)) (fun _ y _ => rs.length - (intOf y).toNat) ⟨0, _, by omega, rfl, rfl, x1, by simp⟩ ?_
  rintro h _ _ W hx hy ⟨k, c, hk, rfl, rfl, xW, hc⟩ K hK
  rw [SRecord.row_len (Sl.ext hv xW), hy, bin_lss]
  refine Br_i (fun hb => ?_) fun hb => ?_
  · have hlt : k < rs.length := by have := dec_t hb; omega
    have hdr : Veh.chained c (rs.drop k) = if rs[k].kind = 2 then decide (rs[k].chain = c) && Veh.chained c (rs.drop (k + 1)) else Veh.chained (Rep.carry c [rs[k].entry]) (rs.drop (k + 1)) := by
      rw [List.drop_eq_getElem_cons hlt]; rfl
    rw [hdr] at hc
    obtain ⟨b, o, hhas, _, hix⟩ := SRecord.row_at hv hlt
    refine join1 (fun x W' => ∃ c', x = u64v c' ∧ Ext w W' ∧ Veh.chained (Rep.begin id) rs = Veh.chained c' (rs.drop (k + 1))) ?_ fun K4 hK4 => ?_
    · rintro h4 x W' hx4 ⟨c', rfl, xW', hc'⟩
      rw [hx4, bin_add, i64_wrap (by omega) (by omega)]
      exact hK _ _ _ ⟨k + 1, c', by omega, by simp, rfl, xW', hc'⟩ (by simp [intOf]; omega)
    have hv1 := hhas W xW
    rw [hix, SRecord.g_kind hv1, bin_eql]
    refine Br_i (fun hb1 => ?_) fun hb1 => ?_
    · rw [if_pos (dec_t hb1)] at hc
      rw [hix, SRecord.g_chain hv1, hx, u64_neq]
      refine Br_i (fun hb2 => hR _ _ ⟨?_, xW⟩) fun hb2 => hK4 _ _ ⟨c, rfl, xW, ?_⟩
      · have : ¬ rs[k].chain = c := by simpa using hb2
        rw [hc, decide_eq_false this]; rfl
      · have : rs[k].chain = c := by simpa using hb2
        rw [hc, decide_eq_true this, Bool.true_and]
    · rw [if_neg (dec_f hb1)] at hc
      rw [hix, SRecord.g_entry hv1]
      refine SEntry.row_lit [rs[k].entry] rfl (by decide) (by decide) rfl fun u w5 x5 h5 _ => ?_
      rw [hx]
      refine callF_ret (Carry_ret c (fun e he => by rw [List.mem_singleton] at he; subst he; exact (hok _ (List.getElem_mem hlt)).2.1) w5 (Sl.of_owns h5)) ?_
      rintro _ w6 ⟨rfl, x6⟩
      exact hK4 _ _ ⟨_, rfl, (xW.trans x5).trans x6, hc⟩
  · have hge : rs.length ≤ k := by have := dec_f hb; omega
    rw [List.drop_eq_nil_of_le hge] at hc
    exact hR _ _ ⟨by rw [hc]; rfl, xW⟩
def SaysQ (b : List UInt8) (id : Int) (w : World) (r : Value) (w' : World) : Prop := ∃ x, r = .tuple #[x, .int .i64 (if (Veh.says b id).isSome = true then ((Jou.load b).2 : Nat) else 0), .bool (Veh.says b id).isSome] ∧ SEntry.Owns w.heap.size w' x ((Veh.says b id).getD []) ∧ Ext w w'
theorem rsays_ret {v : Value} {b : List UInt8} {id : Int} (hid : I64 id) (w : World) (hv : Sl w 1 v b.length (bv b)) : Ret Tryz.prog 31 #[v, .int .i64 id] w (SaysQ b id w) := by
  refine ret_of (fun _ _ => sh_landfallref41_Says_ok _ _) fun R hR => ?_
  unfold sh_landfallref41_Says
  refine callF_ret (jrefLoad_ret w hv) ?_
  rintro _ w1 ⟨x, rfl, hx, x1⟩
  rw [ext3_0, ext3_1, ext3_2, bin_neq]
  have bad : ∀ W, Ext w W → Veh.says b id = none → R (.returned (.tuple #[.slice none 0 0, .int .i64 0, .bool false])) W := fun W x h => hR _ _ ⟨_, by rw [h]; rfl, by rw [h]; exact SEntry.owns_nil _ _, x⟩
  by_cases hlen : 200000 < b.length
  · have e : loadV b = ([], 0, 2) := by unfold loadV; rw [if_pos hlen]
    rw [e]
    exact br_t (bad _ x1 (by unfold Veh.says; rw [if_pos hlen]))
  rw [loadV_of (by omega)] at hx ⊢
  have hx : SRecord.Row w1 x (Jou.load b).1 := hx
  obtain ⟨hfo, _, _, _, hrl⟩ := Veh.load_inv b
  refine br_f ?_
  have hl4 : (Jou.load b).1.length ≤ 4000 ∨ 4000 < (Jou.load b).1.length := by omega
  refine callF_ret (Kept_own w1 hx (by omega) fun r hr => (hfo r hr).1) ?_
  rintro _ w2 ⟨xe, rfl, hxe, x2⟩
  rw [ext2_0, ext2_1, un_not]
  have x02 := x1.trans x2
  cases hk : Jou.kept (Jou.load b).1 with
  | none => exact br_t (bad _ x02 (Veh.says_none hlen hk))
  | some o =>
    refine br_f ?_
    rw [hk] at hxe
    have hxe : SEntry.Owns w1.heap.size w2 xe o := hxe
    refine callF_ret (Follow_ret 1 w2 (Sl.of_owns hxe)) ?_
    rintro _ w3 ⟨rfl, x3⟩
    refine callF_ret (chained_ret hid (fun r hr => (hfo r hr).2) w3 (Sl.ext hx (x2.trans x3))) ?_
    rintro _ w4 ⟨rfl, x4⟩
    have x04 := (x02.trans x3).trans x4
    have hsy := Veh.says_eq (id := id) hlen hk
    refine join0 (fun W => W = w4 ∧ Rep.follows o 1 = true ∧ Veh.chained (Rep.begin id) (Jou.load b).1 = true) ?_ fun K hK => ?_
    · rintro _ W ⟨hW, h1, h2⟩
      subst W
      rw [if_pos ⟨h1, h2⟩] at hsy
      exact hR _ _ ⟨xe, by rw [hsy]; rfl, by rw [hsy]; exact Own.mono (Own.ext hxe (x3.trans x4)) x1.size, x04⟩
    · refine join_in fun K2 hK2 => ?_
      rw [un_not]
      refine Gd_i (fun hb => ?_) fun hb => leaf1 hK2 fun h hh => by
        rw [hh]
        exact br_t (bad _ x04 (by rw [hsy, if_neg (fun h => by rw [h.1] at hb; cases hb)]))
      rw [un_not]
      refine leaf1 hK2 fun h hh => ?_
      rw [hh]
      refine Br_i (fun hb2 => bad _ x04 (by rw [hsy, if_neg (fun h => by rw [h.2] at hb2; cases hb2)])) fun hb2 => hK _ ⟨rfl, by simpa using hb, by simpa using hb2⟩
theorem rends_ret {v : Value} {rs : List SRecord} {s : Int} (hok : ∀ r ∈ rs, r.Ok) (hB : (Jou.bytes rs).length ≤ 1000000) (w : World) (hv : SRecord.Row w v rs) : Ret Tryz.prog 33 #[v, .int .i64 s] w fun r w' => r = .bool (Veh.ends rs s) ∧ Ext w w' := by
  refine ret_of (fun _ _ => sh_landfallref41_Ends_ok _ _) fun R hR => ?_
  unfold sh_landfallref41_Ends
  have hle := hv.le
  have hbk : ∀ k, (Jou.bytes (rs.take k)).length ≤ 1000000 := fun k => by
    have := Veh.bytes_mono rs (Nat.le_max_left k rs.length)
    rw [List.take_of_length_le (Nat.le_max_right _ _)] at this; omega
  refine loop2 (fun x y W => ∃ k : Nat, k ≤ rs.length ∧ y = .int .i64 k ∧ x = .int .i64 ((Jou.bytes (rs.take k)).length : Nat) ∧ Ext w W ∧ ∀ j, j < k → ((Jou.bytes (rs.take j)).length : Int) < s) (fun _ y _ => rs.length - (intOf y).toNat) ⟨0, by omega, rfl, rfl, Ext.refl _, fun j hj => by omega⟩ ?_
  rintro h _ _ W hx hy ⟨k, hk, rfl, rfl, xW, hlo⟩ K hK
  have last : (k = rs.length ∨ ¬ ((Jou.bytes (rs.take k)).length : Int) < s) → decide (((Jou.bytes (rs.take k)).length : Int) = s) = Veh.ends rs s := fun hd => by
    rw [Bool.eq_iff_iff, decide_eq_true_eq, Veh.ends_iff]
    constructor
    · exact fun e => ⟨k, hk, e.symm⟩
    · rintro ⟨j, hj, e⟩
      rcases Nat.lt_trichotomy j k with hlt | rfl | hgt
      · have := hlo j hlt; omega
      · exact e.symm
      · rcases hd with hd | hd
        · omega
        · have := Veh.bytes_mono rs (show k ≤ j by omega)
          have := Veh.bytes_lt rs hgt (by omega)
          omega
  refine join0 (fun W' => W' = W ∧ k < rs.length ∧ ((Jou.bytes (rs.take k)).length : Int) < s) ?_ fun K2 hK2 => ?_
  · rintro _ W' ⟨hW, hlt, hs⟩
    subst W'
    obtain ⟨b, o, hhas, _, hix⟩ := SRecord.row_at hv hlt
    have hro := hok rs[k] (List.getElem_mem hlt)
    rw [hy, hix, SRecord.g_all (hhas W xW)]
    refine callF_ret (refInts_ret rs[k] W) ?_
    rintro vi w2 ⟨x2, hi⟩
    refine callF_ret (refFrame_ret (Jou.ints_ok hro) w2 (Sl.of_owns hi)) ?_
    rintro _ w3 ⟨x3, hf⟩
    rw [if_neg (by have := (Jou.ints_len rs[k]).2; omega)] at hf
    obtain ⟨vf, rfl, hown⟩ := hf
    have hown : w3.ownsRow w2.heap.size 5 1 vf (Jou.frameOf rs[k]).length (bv (Jou.frameOf rs[k])) := hown
    have hb1 := hbk k
    have hb2 := hbk (k + 1)
    have e : (Jou.bytes (rs.take (k + 1))).length = (Jou.bytes (rs.take k)).length + (Jou.frameOf rs[k]).length := by rw [List.take_succ_eq_append_getElem hlt, Jou.bytes_snoc, List.length_append]
    rw [ext2_0, ext2_1, (Sl.of_owns hown).len Ty.bytes, hx, bin_add, i64_wrap (by omega) (by omega), bin_add, i64_wrap (by omega) (by omega), show ((Jou.bytes (rs.take k)).length : Int) + ((Jou.frameOf rs[k]).length : Nat) = ((Jou.bytes (rs.take (k + 1))).length : Nat) by omega]
    refine hK _ _ _ ⟨k + 1, by omega, by simp, rfl, (xW.trans x2).trans x3, fun j hj => ?_⟩ (by simp [intOf]; omega)
    rcases Nat.lt_or_ge j k with h | h
    · exact hlo j h
    · have : j = k := by omega
      subst this; exact hs
  · rw [SRecord.row_len (Sl.ext hv xW), hy, bin_lss]
    refine Gd_i (fun hb => ?_) fun hb => ?_
    · rw [hx, bin_lss]
      refine Br_i (fun hb2 => hK2 _ ⟨rfl, by have := dec_t hb; omega, dec_t hb2⟩) fun hb2 => ?_
      rw [bin_eql]
      exact hR _ _ ⟨by rw [last (.inr (dec_f hb2))], xW⟩
    · rw [hx, bin_eql]
      exact hR _ _ ⟨by rw [last (.inl (by have := dec_f hb; omega))], xW⟩
theorem rvalid_ret {s : SVeh} {v : Veh.V} (hok : VehOk v) (w : World) (hv : VehIs w s v) : Ret Tryz.prog 9 #[.agg s.cells.toArray] w fun r w' => r = .bool (Veh.valid v) ∧ Ext w w' := by
  refine ret_of (fun _ _ => sh_landfallref41_Valid_ok _) fun R hR => ?_
  unfold sh_landfallref41_Valid
  refine box_i fun b1 w1 x1 hat1 hb1 _ => ?_
  have hg : ∀ W, Ext w1 W → Has W b1 0 s.cells := fun W x => has_of_at (hat1.ext x)
  have bad : ∀ W, Ext w1 W → ¬ Veh.Valid v → R (.returned (.bool false)) W := fun W x h => hR _ _ ⟨by rw [Veh.valid_f.2 h], x1.trans x⟩
  have e1 : s.id = v.id := hv.1
  have e2 : s.ver = v.ver := hv.2.1
  have e3 : s.log.veh = v.log.veh := hv.2.2.1.1
  have e4 : s.used = v.used := hv.2.2.2.2.2.2.1
  have e5 : s.mode = v.mode := hv.2.2.2.2.2.2.2
  have e6 : s.sure = v.sure := hv.2.2.2.2.1
  have e7 : s.up = v.up := hv.2.2.2.2.2.1
  refine join0 (fun W => W = w1 ∧ Veh.Nums v) ?_ fun K hK => ?_
  · rintro _ W ⟨hW, hn⟩
    subst W
    rw [SVeh.g_log (hg w1 (Ext.refl _))]
    refine callF_ret ((hv.ext x1).2.2.1.refValid_ret) ?_
    rintro _ w2 ⟨rfl, x2⟩
    refine join0 (fun W => W = w2 ∧ v.log.valid = true ∧ v.log.veh = v.id) ?_ fun K2 hK2 => ?_
    · rintro _ W ⟨hW, hlv, hid⟩
      subst W
      rw [SVeh.g_byts (hg w2 x2), SVeh.g_id (hg w2 x2), e1]
      refine callF_ret (rsays_ret hok.1 w2 (hv.ext (x1.trans x2)).2.2.2.1) ?_
      rintro _ w3 ⟨xe, rfl, hxe, x3⟩
      rw [ext3_0, ext3_1, ext3_2]
      have x13 := x2.trans x3
      rw [SVeh.g_byts (hg w3 x13)]
      refine callF_ret (jrefLoad_ret w3 (hv.ext (x1.trans x13)).2.2.2.1) ?_
      rintro _ w4 ⟨xr, rfl, hxr, x4⟩
      rw [ext3_0, ext3_1, ext3_2]
      have x14 := x13.trans x4
      rw [SVeh.g_sure (hg w4 x14), e6]
      obtain ⟨hfo, _, hbl, hbw, _⟩ := Veh.load_inv v.b
      have hlr : (∀ r ∈ (loadV v.b).1, r.Ok) ∧ (Jou.bytes (loadV v.b).1).length ≤ 1000000 ∧ (¬ 200000 < v.b.length → (loadV v.b).1 = (Jou.load v.b).1) := by
        unfold loadV
        split
        · exact ⟨by simp, by simp [Jou.bytes_nil], fun h => absurd ‹_› h⟩
        · exact ⟨fun r hr => (hfo r hr).2, by show (Jou.bytes (Jou.load v.b).1).length ≤ _; omega, fun _ => rfl⟩
      refine callF_ret (rends_ret hlr.1 hlr.2.1 w4 hxr) ?_
      rintro _ w5 ⟨rfl, x5⟩
      have x15 := x14.trans x5
      refine join0 (fun W => W = w5 ∧ (∃ o, Veh.says v.b v.id = some o) ∧ Veh.ends (Jou.load v.b).1 v.sure = true) ?_ fun K3 hK3 => ?_
      · rintro _ W ⟨hW, ⟨o, ho⟩, hends⟩
        subst W
        rw [ho] at hxe ⊢
        have hxe : SEntry.Row w3 xe o := Sl.of_owns hxe
        rw [SVeh.g_up (hg w5 x15), un_not, e7]
        have x05 := x1.trans x15
        have hent := (hv.ext x05).2.2.1.2.2
        refine Br_i (fun hu => ?_) fun hu => ?_
        · have hu : v.up = false := by simpa using hu
          rw [SVeh.g_log_ents (hg w5 x15), SEntry.row_len hent, bin_eql]
          refine hR _ _ ⟨?_, x05⟩
          congr 1
          rw [Bool.eq_iff_iff, Veh.valid_iff, decide_eq_true_eq]
          constructor
          · exact fun h => ⟨hn, ⟨hlv, hid⟩, ⟨o, ho, by rw [if_neg (by rw [hu]; decide)]; exact List.eq_nil_of_length_eq_zero (by omega)⟩, hends⟩
          · rintro ⟨_, _, ⟨o', ho', hi⟩, _⟩
            rw [if_neg (by rw [hu]; decide)] at hi
            rw [hi]; rfl
        · have hu : v.up = true := by simpa using hu
          rw [SVeh.g_byts (hg w5 x15), (hv.ext x05).2.2.2.1.len Ty.bytes, bin_eql]
          show Gd (.bool (decide (((Jou.load v.b).2 : Int) = (v.b.length : Int)))) true _ _
          have ew : (((Jou.load v.b).2 : Int) = (v.b.length : Int)) ↔ (Jou.load v.b).2 = v.b.length := by omega
          refine Gd_i (fun hb => ?_) fun hb => bad _ x15 ?_
          · rw [SVeh.g_log_ents (hg w5 x15)]
            refine callF_ret (SameEntries_ret w5 (Sl.ext hxe (x4.trans x5)) hent) ?_
            rintro _ w6 ⟨rfl, x6⟩
            refine hR _ _ ⟨?_, x05.trans x6⟩
            congr 1
            rw [Bool.eq_iff_iff, Veh.valid_iff, decide_eq_true_eq]
            constructor
            · exact fun h => ⟨hn, ⟨hlv, hid⟩, ⟨o, ho, by rw [if_pos hu]; exact ⟨ew.1 (dec_t hb), h⟩⟩, hends⟩
            · rintro ⟨_, _, ⟨o', ho', hi⟩, _⟩
              rw [if_pos hu] at hi
              rw [ho] at ho'; cases ho'; exact hi.2
          · rintro ⟨_, _, ⟨o', ho', hi⟩, _⟩
            rw [if_pos hu] at hi
            exact dec_f hb (ew.2 hi.1)
      · refine join_in fun K4 hK4 => ?_
        rw [un_not]
        refine Gd_i (fun hb => ?_) fun hb => leaf1 hK4 fun h hh => by
          rw [hh]
          refine br_t (bad _ x15 fun hV => ?_)
          obtain ⟨o, ho, _⟩ := hV.2.2.1
          rw [ho] at hb; cases hb
        have hb : (Veh.says v.b v.id).isSome = true := by simpa using hb
        obtain ⟨o, ho⟩ := Option.isSome_iff_exists.1 hb
        have hnl : ¬ 200000 < v.b.length := by have := (Veh.says_iff.1 ho).1; omega
        rw [un_not, hlr.2.2 hnl]
        refine leaf1 hK4 fun h hh => ?_
        rw [hh]
        exact Br_i (fun hb2 => bad _ x15 fun hV => by rw [hV.2.2.2] at hb2; cases hb2) fun hb2 => hK3 _ ⟨rfl, ⟨o, ho⟩, by simpa using hb2⟩
    · refine join_in fun K3 hK3 => ?_
      rw [un_not]
      refine Gd_i (fun hb => ?_) fun hb => leaf1 hK3 fun h hh => by
        rw [hh]
        exact br_t (bad _ x2 fun hV => by rw [hV.2.1.1] at hb; cases hb)
      rw [SVeh.g_log_veh (hg w2 x2), SVeh.g_id (hg w2 x2), bin_neq]
      refine leaf1 hK3 fun h hh => ?_
      rw [hh]
      refine Br_i (fun hb2 => bad _ x2 fun hV => ?_) fun hb2 => hK2 _ ⟨rfl, by simpa using hb, ?_⟩
      · have : ¬ s.log.veh = s.id := by simpa using hb2
        exact this (by rw [e3, e1]; exact hV.2.1.2)
      · have : s.log.veh = s.id := by simpa using hb2
        rw [← e3, ← e1]; exact this
  · refine join_in fun K2 hK2 => ?_
    have nb : ¬ Veh.Nums v → R (.returned (.bool false)) w1 := fun h => bad _ (Ext.refl _) fun hV => h hV.1
    rw [SVeh.g_id (hg w1 (Ext.refl _))]
    refine callF_same (vehNumber_ret _ w1) ?_
    rw [un_not]
    refine Gd_i (fun hb => ?_) fun hb => leaf1 hK2 fun h hh => by
      rw [hh]
      refine br_t (nb fun hn => ?_)
      have : ¬ (1 ≤ s.id ∧ s.id ≤ 1000000) := by simp [Rep.isID] at hb; omega
      exact this (by rw [e1]; exact hn.1)
    have c1 : 1 ≤ s.id ∧ s.id ≤ 1000000 := by simpa [Rep.isID] using hb
    rw [SVeh.g_ver (hg w1 (Ext.refl _))]
    refine callF_same (vehNumber_ret _ w1) ?_
    rw [un_not]
    refine Gd_i (fun hb => ?_) fun hb => leaf1 hK2 fun h hh => by
      rw [hh]
      refine br_t (nb fun hn => ?_)
      have : ¬ (1 ≤ s.ver ∧ s.ver ≤ 1000000) := by simp [Rep.isID] at hb; omega
      exact this (by rw [e2]; exact hn.2.1)
    have c2 : 1 ≤ s.ver ∧ s.ver ≤ 1000000 := by simpa [Rep.isID] using hb
    rw [SVeh.g_used (hg w1 (Ext.refl _)), bin_lss]
    refine Gd_i (fun hb => ?_) fun hb => leaf1 hK2 fun h hh => by
      rw [hh]
      refine br_t (nb fun hn => ?_)
      have h1 : s.used < 0 := dec_t hb
      have := hn.2.2.1.1
      omega
    have c4 : ¬ s.used < 0 := dec_f hb
    rw [SVeh.g_used (hg w1 (Ext.refl _)), bin_gtr]
    refine Gd_i (fun hb => ?_) fun hb => leaf1 hK2 fun h hh => by
      rw [hh]
      refine br_t (nb fun hn => ?_)
      have h1 : 1000000000 < s.used := dec_t hb
      have := hn.2.2.1.2
      omega
    have c5 : ¬ 1000000000 < s.used := dec_f hb
    rw [SVeh.g_mode (hg w1 (Ext.refl _)), bin_lss]
    refine Gd_i (fun hb => ?_) fun hb => leaf1 hK2 fun h hh => by
      rw [hh]
      refine br_t (nb fun hn => ?_)
      have h1 : s.mode < 0 := dec_t hb
      have := hn.2.2.2
      omega
    have c6 : ¬ s.mode < 0 := dec_f hb
    rw [SVeh.g_mode (hg w1 (Ext.refl _)), bin_gtr]
    refine leaf1 hK2 fun h hh => ?_
    rw [hh]
    refine Br_i (fun hb => nb fun hn => ?_) fun hb => ?_
    · have h1 : 1 < s.mode := dec_t hb
      have := hn.2.2.2
      omega
    · have c7 : ¬ 1 < s.mode := dec_f hb
      exact hK _ ⟨rfl, by rw [← e1]; exact c1, by rw [← e2]; exact c2, by omega, by omega⟩
end Go.Proofs.YtoeblipchoglaaaGreatDoor
