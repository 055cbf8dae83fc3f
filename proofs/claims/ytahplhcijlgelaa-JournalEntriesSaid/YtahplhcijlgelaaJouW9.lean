/- The walk of the laws' head. -/
import Derived.Test.YtahplhcijlgelaaJouW8
import Derived.Test.YtahplhcijlgelaaSumW
namespace Go.Proofs.Ytahplhcijlgelaa
set_option maxRecDepth 100000
set_option maxHeartbeats 2000000
open Sh Go.RowKit
theorem max_int {P : Program} {t : TypeId} {ts : Array TypeId} {cs : Array Bool} {a b : Int} {w : World} {K : Value → World → Prop} {X : List PanicEntry → World → Prop} : CallB P .max ts t cs #[.int .i64 a, .int .i64 b] w K X = K (.int .i64 (if b > a then b else a)) w := by
  have e : (Builtin.max_ ts t #[.int .i64 a, .int .i64 b]).run P w = .ok (.int .i64 (if b > a then b else a)) w := by
    simp [Builtin.max_, Builtin.max2, List.foldlM]
  simp only [CallB, Do, builtin, Sem.run_bind, e, Result.andThen_ok, Sem.run_pure]
theorem JPutQ.use {b : List UInt8} {r : SRecord} {w w' : World} {v : Value} (h : JPutQ b r w v w') : ∃ x, v = .tuple #[x, .int .i64 (jputV b r).2] ∧ Sl w' 1 x (jputV b r).1.length (bv (jputV b r).1) ∧ Ext w w' := by
  obtain ⟨x, h1, h2, h3⟩ := h
  exact ⟨x, h1, Sl.of_owns h2, h3⟩
theorem jputV_ok {b : List UInt8} {r : SRecord} (hf : Jou.form r = true) (hl : b.length + (Jou.frameOf r).length ≤ 200000) : jputV b r = (b ++ Jou.frameOf r, 0) := by
  unfold jputV
  rw [if_neg (by rw [hf]; decide), if_neg (by omega)]
def e1 : SRecord := ent (entE 1)
def c15 : SRecord := chk 1 5#64
theorem f_e1 : Jou.form e1 = true := by decide
theorem f_c15 : Jou.form c15 = true := by decide
theorem f_c2 : Jou.form (chk 2 4294967297#64) = true := by decide
theorem ok_e1 : e1.Ok := by simp [e1, ent, entE, SRecord.Ok, SEntry.Ok, SSpan.Ok, I64]
theorem ok_c15 : c15.Ok := by simp [c15, chk, SRecord.Ok, SEntry.Ok, SSpan.Ok, SEntry.zero, I64]
theorem ok_c2 : (chk 2 4294967297#64).Ok := by simp [chk, SRecord.Ok, SEntry.Ok, SSpan.Ok, SEntry.zero, I64]
def r3 : SRecord := ⟨3, SEntry.zero, 0, 0⟩
theorem new_r3 : Try.prog.built 29 [(0, .int .i64 3)] = some r3.cells.toArray := by kernel_rfl
theorem ok_r3 : r3.Ok := by simp [r3, SRecord.Ok, SEntry.Ok, SSpan.Ok, SEntry.zero, I64]
theorem f_r3 : Jou.form r3 = false := by decide
theorem ints_c2 : Jou.ints (chk 2 4294967297#64) = [2, 2, 1, 1] := by decide
theorem kept_two : Jou.kept [e1, c15] = some [entE 1] := by decide
theorem kept_bad : Jou.kept [c15, e1] = none := by decide
theorem frame_pos (r : SRecord) : 0 < (Jou.frameOf r).length := by unfold Jou.frameOf; rw [Cod.frame_length]; omega
theorem loadV_of {b : List UInt8} (h : b.length ≤ 200000) : loadV b = ((Jou.load b).1, (Jou.load b).2, 0) := by unfold loadV; rw [if_neg (by omega)]
theorem two_bytes : Jou.bytes [e1, c15] = Jou.frameOf e1 ++ Jou.frameOf c15 := by simp [Jou.bytes, Cod.all, Jou.frameOf]
theorem one_bytes : Jou.bytes [e1] = Jou.frameOf e1 := by simp [Jou.bytes, Cod.all, Jou.frameOf]
theorem two_form : ∀ r ∈ [e1, c15], Jou.form r = true := by intro r hr; simp only [List.mem_cons, List.not_mem_nil, or_false] at hr; rcases hr with rfl | rfl; exact f_e1; exact f_c15
theorem two_ok : ∀ r ∈ [e1, c15], r.Ok := by intro r hr; simp only [List.mem_cons, List.not_mem_nil, or_false] at hr; rcases hr with rfl | rfl; exact ok_e1; exact ok_c15
theorem ent_two : entriesV [e1, c15] = ([entE 1], 0) := by
  unfold entriesV
  rw [if_neg (by decide), if_pos two_form, kept_two]
theorem ent_bad : entriesV [c15, e1] = ([], 7) := by
  unfold entriesV
  rw [if_neg (by decide), if_pos (by intro r hr; simp only [List.mem_cons, List.not_mem_nil, or_false] at hr; rcases hr with rfl | rfl; exact f_c15; exact f_e1), kept_bad]
theorem head_ret (w : World) : Ret Try.prog 9 #[] w fun r w' => r = .bool true ∧ Ext w w' := by
  refine ret_of (fun _ _ => sh_landfalllaw40_head_ok) fun R hR => ?_
  unfold sh_landfalllaw40_head
  have l1 := (jframe_few ok_e1).2
  have l2 := (jframe_few ok_c15).2
  have l3 := (jframe_few ok_c2).2
  have p1 := frame_pos e1
  have p2 := frame_pos c15
  refine lit_ints [2, 2, 1, 1] rfl (by decide) (by decide) rfl fun v1 w1 x1 h1 _ => ?_
  refine callF_ret (Frame_ret (l := [2, 2, 1, 1]) (by simp [I64]) w1 (Sl.of_owns h1)) ?_
  rintro r w2 ⟨x2, hr⟩
  rw [if_neg (by decide)] at hr
  obtain ⟨p, rfl, hp⟩ := hr
  have hp : Sl w2 1 p (Cod.frame [2, 2, 1, 1]).length (bv (Cod.frame [2, 2, 1, 1])) := Sl.of_owns hp
  rw [ext2_0, ext2_1, u64lit 4294967297#64 4294967297 (by decide)]
  refine callF_ret (check_ret 2 4294967297#64 w2) ?_
  rintro _ w3 ⟨rfl, x3⟩
  refine callF_ret (jPut_ret (b := []) ok_c2 (by simp) w3 (Sl.nil _ _)) ?_
  intro r w4 hq
  obtain ⟨got, rfl, hgot, x4⟩ := hq.use
  rw [jputV_ok f_c2 (by simp; omega), List.nil_append] at hgot ⊢
  have hgot : Sl w4 1 got (Cod.frame [2, 2, 1, 1]).length (bv (Cod.frame [2, 2, 1, 1])) := by
    have e : Jou.frameOf (chk 2 4294967297#64) = Cod.frame [2, 2, 1, 1] := by unfold Jou.frameOf; rw [ints_c2]
    rw [← e]; exact hgot
  rw [ext2_0, ext2_1]
  refine callF_ret (entry_ret 1 w4) ?_
  rintro _ w5 ⟨rfl, x5⟩
  refine callF_ret (jPut_ret (b := []) (r := e1) ok_e1 (by simp) w5 (Sl.nil _ _)) ?_
  intro r w6 hq
  obtain ⟨one, rfl, hone, x6⟩ := hq.use
  rw [jputV_ok f_e1 (by simp; omega), List.nil_append] at hone ⊢
  have hone : Sl w6 1 one (Jou.frameOf e1).length (bv (Jou.frameOf e1)) := hone
  rw [ext2_0, ext2_1, u64lit 5#64 5 (by decide)]
  refine callF_ret (check_ret 1 5#64 w6) ?_
  rintro _ w7 ⟨rfl, x7⟩
  refine callF_ret (jPut_ret (r := c15) ok_c15 (by omega) w7 (hone.ext x7)) ?_
  intro r w8 hq
  obtain ⟨two, rfl, htwo, x8⟩ := hq.use
  rw [jputV_ok f_c15 (by omega), ← two_bytes] at htwo ⊢
  have htwo : Sl w8 1 two (Jou.bytes [e1, c15]).length (bv (Jou.bytes [e1, c15])) := htwo
  have ltwo : (Jou.bytes [e1, c15]).length = (Jou.frameOf e1).length + (Jou.frameOf c15).length := by rw [two_bytes, List.length_append]
  rw [ext2_0, ext2_1]
  refine callF_ret (jLoad_ret w8 htwo) ?_
  rintro _ w9 ⟨rl, rfl, hrl, x9⟩
  rw [loadV_of (by omega), Jou.load_all two_form two_ok] at hrl ⊢
  have hrl : SRecord.Row w9 rl [e1, c15] := hrl
  rw [ext3_0, ext3_1, ext3_2]
  have htwo9 := htwo.ext x9
  rw [htwo9.len Ty.bytes, bin_sub, i64_wrap (by omega) (by omega), max_int]
  have emax : (if ((Jou.bytes [e1, c15]).length : Int) - 1 > 0 then ((Jou.bytes [e1, c15]).length : Int) - 1 else 0) = (((Jou.bytes [e1, c15]).length - 1 : Nat) : Int) := by
    rw [if_pos (by omega)]; omega
  rw [emax]
  refine up_bytes htwo9 (by omega) fun vcut hcut => ?_
  refine callF_ret (jLoad_ret w9 hcut) ?_
  rintro _ w10 ⟨rk, rfl, hrk, x10⟩
  have etorn := Jou.load_torn (rs := [e1, c15]) two_form two_ok (k := 1) (at_ := (Jou.bytes [e1, c15]).length - 1) (by
    show (Jou.bytes [e1]).length ≤ _
    rw [one_bytes]; omega) (fun _ => by
    show _ < (Jou.bytes [e1, c15]).length
    omega)
  have etorn : Jou.load ((Jou.bytes [e1, c15]).take ((Jou.bytes [e1, c15]).length - 1)) = ([e1], (Jou.frameOf e1).length) := by rw [etorn, ← one_bytes]; rfl
  rw [loadV_of (by rw [List.length_take]; omega), etorn] at hrk ⊢
  have hrk : SRecord.Row w10 rk [e1] := hrk
  rw [ext3_0, ext3_1, ext3_2]
  refine callF_ret (jEntries_ret w10 (Sl.ext hrl x10)) ?_
  rintro _ w11 ⟨xe, rfl, hxe, x11⟩
  rw [ent_two] at hxe ⊢
  have hxe : SEntry.Row w11 xe [entE 1] := hxe
  rw [ext2_0, ext2_1]
  refine callF_ret (check_ret 1 5#64 w11) ?_
  rintro _ w12 ⟨rfl, x12⟩
  refine callF_ret (entry_ret 1 w12) ?_
  rintro _ w13 ⟨rfl, x13⟩
  refine SRecord.row_lit [c15, e1] rfl (by decide) (by decide) rfl fun vb w14 x14 hb14 _ => ?_
  refine callF_ret (jEntries_ret w14 (Sl.of_owns hb14)) ?_
  rintro _ w15 ⟨xb, rfl, _, x15⟩
  rw [ent_bad, ext2_0, ext2_1, build_i new_r3]
  refine callF_ret (jPut_ret (b := []) (r := r3) ok_r3 (by simp) w15 (Sl.nil _ _)) ?_
  intro r w16 hq
  obtain ⟨xc, rfl, _, x16⟩ := hq.use
  have e3 : jputV [] r3 = ([], 1) := by unfold jputV; rw [if_pos f_r3]
  rw [e3, ext2_0, ext2_1]
  have x4_16 : Ext w4 w16 := ((((((((((x5.trans x6).trans x7).trans x8).trans x9).trans x10).trans x11).trans x12).trans x13).trans x14).trans x15).trans x16
  have x_16 : Ext w w16 := (((x1.trans x2).trans x3).trans x4).trans x4_16
  have hp16 := hp.ext ((x3.trans x4).trans x4_16)
  have hgot16 := hgot.ext x4_16
  have x9_16 : Ext w9 w16 := ((((((x10.trans x11).trans x12).trans x13).trans x14).trans x15).trans x16)
  have hone16 := hone.ext (((x7.trans x8).trans x9).trans x9_16)
  have htwo16 := htwo9.ext x9_16
  have hrl16 : SRecord.Row w16 rl [e1, c15] := Sl.ext hrl x9_16
  have hrk16 : SRecord.Row w16 rk [e1] := Sl.ext hrk ((((((x11.trans x12).trans x13).trans x14).trans x15).trans x16))
  have hxe16 : SEntry.Row w16 xe [entE 1] := Sl.ext hxe (((((x12.trans x13).trans x14).trans x15).trans x16))
  refine join1 (fun b w' => b = .bool true ∧ w' = w16) ?_ fun K1 hK1 => ?_
  · rintro h17 b w17 hb ⟨rfl, rfl⟩
    rw [hb]
    refine join1 (fun b w' => b = .bool true ∧ Ext w17 w') ?_ fun K2 hK2 => ?_
    · rintro h18 b w18 hb ⟨rfl, x18⟩
      rw [hb]
      refine gd_t ?_
      refine callF_ret (entry_ret 1 w18) ?_
      rintro _ w19 ⟨rfl, x19⟩
      refine SRecord.row_lit [e1] rfl (by decide) (by decide) rfl fun va w20 x20 ha _ => ?_
      have x1720 := (x18.trans x19).trans x20
      refine callF_ret (sameRecs_ret (a := [e1]) (b := [e1]) w20 (Sl.ext hrk16 x1720) (Sl.of_owns ha)) ?_
      rintro _ w21 ⟨rfl, x21⟩
      rw [dec_same]
      refine gd_t ?_
      have x1721 := x1720.trans x21
      rw [(hone16.ext x1721).len Ty.bytes, bin_eql, dec_same]
      refine gd_t ?_
      rw [build_i (new_entry 1)]
      refine SEntry.row_lit [entE 1] rfl (by decide) (by decide) rfl fun va w22 x22 ha _ => ?_
      refine callF_ret (sameEnts_ret (a := [entE 1]) (b := [entE 1]) w22 (Sl.ext hxe16 (x1721.trans x22)) (Sl.of_owns ha)) ?_
      rintro _ w23 ⟨rfl, x23⟩
      rw [dec_same]
      exact hR _ _ ⟨rfl, x_16.trans ((x1721.trans x22).trans x23)⟩
    · refine gd_t ?_
      refine callF_same (SameBytes_ret w17 hp16 hgot16) ?_
      rw [dec_same]
      refine gd_t ?_
      rw [hp16.len Ty.bytes, bin_gtr, show decide ((0 : Int) < ((Cod.frame [2, 2, 1, 1]).length : Int)) = true by rw [Cod.frame_length]; simp; omega]
      refine gd_t ?_
      refine callF_ret (entry_ret 1 w17) ?_
      rintro _ w18 ⟨rfl, x18⟩
      refine callF_ret (check_ret 1 5#64 w18) ?_
      rintro _ w19 ⟨rfl, x19⟩
      refine SRecord.row_lit [e1, c15] rfl (by decide) (by decide) rfl fun va w20 x20 ha _ => ?_
      have x1720 := (x18.trans x19).trans x20
      refine callF_ret (sameRecs_ret (a := [e1, c15]) (b := [e1, c15]) w20 (Sl.ext hrl16 x1720) (Sl.of_owns ha)) ?_
      rintro _ w21 ⟨rfl, x21⟩
      rw [dec_same]
      refine gd_t ?_
      have x1721 := x1720.trans x21
      rw [(htwo16.ext x1721).len Ty.bytes, bin_eql, dec_same]
      exact hK2 _ _ ⟨rfl, x1721⟩
  · simp only [okE]
    rw [bin_eql, dec_same]; refine gd_t ?_
    rw [bin_eql, dec_same]; refine gd_t ?_
    rw [bin_eql, dec_same]; refine gd_t ?_
    rw [bin_eql, dec_same]; refine gd_t ?_
    rw [bin_eql, dec_same]; refine gd_t ?_
    rw [bin_eql, dec_same]; refine gd_t ?_
    rw [bin_eql, dec_same]; refine gd_t ?_
    rw [bin_eql, dec_same]; refine gd_t ?_
    rw [bin_eql, dec_same]
    exact hK1 _ _ ⟨rfl, rfl⟩
end Go.Proofs.Ytahplhcijlgelaa
