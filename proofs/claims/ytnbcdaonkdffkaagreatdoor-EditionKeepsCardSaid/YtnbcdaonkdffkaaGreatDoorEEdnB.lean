/- Make. -/
import Derived.Test.YtnbcdaonkdffkaaGreatDoorEEdnA
set_option linter.unusedVariables false
set_option linter.unusedSimpArgs false
namespace Go.Proofs.YtnbcdaonkdffkaaGreatDoor
set_option maxRecDepth 100000
set_option maxHeartbeats 16000000
open Sh Go.RowKit
theorem isSecret_ret (n : Int) (w : World) : Ret Tryz.prog 72 #[.int .i64 n] w fun r w' => r = .bool (Sig.inQ 1 n) ∧ Ext w w' := by
  refine ret_of (fun _ _ => sh_edition_isSecret_ok _) fun R hR => ?_
  unfold sh_edition_isSecret
  refine callF_ret (Public_ret n w) ?_
  rintro _ w1 ⟨rfl, x1⟩
  rw [ext2_0, ext2_1, bin_eql]
  refine hR _ _ ⟨?_, x1⟩
  unfold Sig.pubV
  cases Sig.inQ 1 n <;> rfl
theorem cloneInts_ret {v : Value} {l : List Int} (w : World) (h : IntsIs w v l) (hl : l.length < 100000000) : Ret Tryz.prog 76 #[v] w fun r w' => w'.ownsRow w.heap.size 3 1 r l.length (iv l) ∧ Ext w w' := by
  refine ret_of (fun _ _ => sh_slices_Clone___int_int__ok _) fun R hR => ?_
  unfold sh_slices_Clone___int_int_
  obtain ⟨a, c, rfl, hr⟩ := id h
  rw [DoV_ok (show (binS .eql 36 (.tmp 3) (.const (.slice none 0 0)) (.slice a l.length c) (.slice none 0 0)).run Tryz.prog w = .ok (.bool a.isNone) w by cases a <;> kernel_rfl)]
  refine Br_i (fun hb => ?_) fun hb => ?_
  · cases a with
    | some _ => cases hb
    | none =>
      rcases hr.2.2.2 with h0 | ⟨_, _, h0, _⟩
      · have hl0 : l = [] := by
          cases l with
          | nil => rfl
          | cons x l => cases h0
        subst hl0
        exact hR _ _ ⟨Own.nil _ _ _ _, Ext.refl _⟩
      · cases h0
  · obtain ⟨i, hi, hz, hs, hby⟩ := Ty.info_parts Ty.int_info
    refine lit0_i Ty.ints hi fun v1 w1 x1 ho1 _ => ?_
    refine app_ints (l := []) ho1 (Sl.ext h x1) (by simp; omega) (by have := x1.size; omega) fun v2 w2 ho2 m2 => ?_
    have x2 : Ext w w2 := ((Mod.of_ext x1 : Mod (w.heap.size ≤ ·) w w1).trans (m2.mono fun k _ hk => (Own.block ho1 hk).1)).new
    exact hR _ _ ⟨ho2, x2⟩
namespace Edi
open Cha
def noI : Iss := ⟨0, 0, 0, [], SSig.zero⟩
noncomputable def bareOf (C : Cht) (l : List Int) : Iss := ⟨C.ver + 1, (digestV C).1, (digestV (nextC C l)).1, l, SSig.zero⟩
noncomputable def issOf (C : Cht) (l : List Int) (s o : Int) : Iss := { bareOf C l with sig := (Sig.signV s o (issInts (bareOf C l))).1 }
noncomputable def makeV (C : Cht) (l : List Int) (s o : Int) : Iss × Cht × Int :=
  if (Cha.valid C && (Sig.inQ 1 s && Sig.inQ 1 o)) = true then
    if voids C l = true then
      if 1000000 ≤ C.ver then (noI, noC, 2) else (issOf C l s o, nextC C l, 0)
    else (noI, noC, 7)
  else (noI, noC, 1)
theorem voids_rng {C : Cht} {l : List Int} (h : VoidsP C l) : ∀ k (hk : k < l.length), 0 ≤ l[k] ∧ l[k] < C.cells.length := fun _ hk => void_rng h hk
theorem good_ver {C : Cht} (h : GoodC C) : 1 ≤ C.ver ∧ C.ver ≤ 1000000 := by
  have f1 := h.1.1
  unfold isID at f1
  exact of_decide_eq_true f1
theorem good_pos {C : Cht} (h : GoodC C) : 0 < C.cells.length := by
  obtain ⟨⟨f1, f2, f3, f4, f5, f6, f7, f8⟩, _⟩ := h
  have : 0 < C.w * C.h := Int.mul_pos (by omega) (by omega)
  omega
theorem q_i64 {k : Nat} (h : k < Sig.Q) : I64 (k : Int) := by have hQ : Sig.Q = 1073741789 := rfl; constructor <;> omega
theorem signV_sig (s o : Int) (m : List Int) : (Sig.signV s o m).1.Ok := by
  unfold Sig.signV
  split
  · exact ⟨q_i64 (Sig.chal_lt _), q_i64 (Nat.mod_lt _ (by decide))⟩
  · exact ⟨by simp [SSig.zero, I64], by simp [SSig.zero, I64]⟩
theorem issInts_small {I : Iss} (h1 : I64 I.ver) (h2 : ∀ n ∈ I.void, I64 n) (h3 : I.void.length ≤ 9000) : SmallList (issInts I) := by
  refine ⟨fun n hn => ?_, by simp [issInts]; omega⟩
  have a1 := hi_rng I.before
  have a2 := lo_rng I.before
  have a3 := hi_rng I.after
  have a4 := lo_rng I.after
  simp only [issInts, List.mem_append, List.mem_cons, List.not_mem_nil, or_false] at hn
  rcases hn with ((rfl | rfl | rfl) | rfl | rfl) | hn
  · exact h1
  · constructor <;> omega
  · constructor <;> omega
  · constructor <;> omega
  · constructor <;> omega
  · exact h2 n hn
end Edi
open Edi
theorem new_issue15 (a : Int) (b c : BitVec 64) (x : Hdr) : Tryz.prog.built 55 [(0, .int .i64 a), (1, u64v b), (2, u64v c), (3, x.val)] = some (SIssue.mk a b c x SSig.zero).cells.toArray := by kernel_rfl
theorem new_noissue15 : Tryz.prog.built 55 [] = some SIssue.zero.cells.toArray := by kernel_rfl
theorem noissue_is (W : World) : IssueIs W SIssue.zero Edi.noI := ⟨rfl, rfl, rfl, Sl.nil _ _, rfl⟩
def MakeQ (w0 : World) (C : Cht) (l : List Int) (s o : Int) (w : World) (r : Value) (w' : World) : Prop :=
  (∃ (t : SIssue) (u : SChart), r = .tuple #[.agg t.cells.toArray, .agg u.cells.toArray, .int .i64 (Edi.makeV C l s o).2.2] ∧ IssueIs w' t (Edi.makeV C l s o).1 ∧ DLive w0 w.heap.size w' u (Edi.makeV C l s o).2.1) ∧ Ext w w'
theorem issue_var {w : World} {b : Nat} {t : SIssue} (h : At w b (.cells t.cells.toArray 55 (0, 0))) : (loadVar 55 ⟨b, 0, none⟩).run Tryz.prog w = .ok (.agg t.cells.toArray) w := loadVar_agg Ty.SIssue_agg Ty.SIssue_size (xs := t.cells) rfl (has_of_at h)
theorem chart_var {w : World} {b : Nat} {t : SChart} (h : At w b (.cells t.cells.toArray 26 (0, 0))) : (loadVar 26 ⟨b, 0, none⟩).run Tryz.prog w = .ok (.agg t.cells.toArray) w := loadVar_agg Ty.SChart_agg Ty.SChart_size (xs := t.cells) rfl (has_of_at h)
theorem make_bad {C : Cht} {l : List Int} {s o e : Int} {wa w0 w : World} {b8 b9 : Nat} {R : Ending → World → Prop} {X1 X2 X3 X4 : List PanicEntry → World → Prop} (hR : ∀ v w', MakeQ wa C l s o w0 v w' → R (.returned v) w') (hx : Ext w0 w) (h8 : At w b8 (.cells SIssue.zero.cells.toArray 55 (0, 0))) (h9 : At w b9 (.cells SChart.zero.cells.toArray 26 (0, 0)))
    (hb8 : w0.heap.size ≤ b8) (hb9 : w0.heap.size ≤ b9) (hne : b8 ≠ b9) (hv : Edi.makeV C l s o = (Edi.noI, Cha.noC, e)) :
    DoV Tryz.prog (Instr.build 55 #[]) w (fun a w1 => DoV Tryz.prog (Instr.build 26 #[]) w1 (fun b w2 =>
      DoU Tryz.prog (Instr.storeAt 55 (.pointer (some ⟨b8, 0, none⟩)) a) w2 (fun _ w3 => DoU Tryz.prog (Instr.storeAt 26 (.pointer (some ⟨b9, 0, none⟩)) b) w3 (fun _ w4 =>
        Res Tryz.prog [.cell (.pointer (some ⟨b8, 0, none⟩)) 55, .cell (.pointer (some ⟨b9, 0, none⟩)) 26, .tmp (.int .i64 e)] w4 R) X4) X3) X2) X1 := by
  rw [build_i new_noissue15, build_i new_nochart15]
  refine SIssue.set (r := SIssue.zero) h8 fun w3 m3 h3 _ => ?_
  refine SChart.set (r := SChart.zero) (h9.mod m3 (fun e => hne e.symm)) fun w4 m4 h4 _ => ?_
  refine res_i (rv_cell (issue_var (h3.mod m4 hne)) (rv_cell (chart_var h4) (rv_tmp (rv_nil _)))) (hR _ _ ⟨⟨SIssue.zero, SChart.zero, by rw [hv]; rfl, by rw [hv]; exact noissue_is _, by rw [hv]; exact fun W' _ => nochart_is W'⟩, ?_⟩)
  exact (((Mod.of_ext hx : Mod (w0.heap.size ≤ ·) w0 w).trans (m3.mono fun k _ h => by omega)).trans (m4.mono fun k _ h => by omega)).new
theorem det_fill_iss {b : Nat} {p q : SIssue} {w0 : World} {X : List PanicEntry → World → Prop} {rest : Value → (World → Prop) → Prop} (h0 : At w0 b (.cells p.cells.toArray 55 (0, 0))) (hk : rest undef fun V => At V b (.cells q.cells.toArray 55 (0, 0))) :
    DetOp (Turn2 b (.cells p.cells.toArray 55 (0, 0)) (.cells q.cells.toArray 55 (0, 0))) (Turn2 b (.cells p.cells.toArray 55 (0, 0)) (.cells q.cells.toArray 55 (0, 0))) w0 (fun w1 K => DoU Tryz.prog (Instr.storeAt 55 (.pointer (some ⟨b, 0, none⟩)) (.agg q.cells.toArray)) w1 K X) rest :=
  ⟨undef, fun V => At V b (.cells q.cells.toArray 55 (0, 0)), fun _ _ h k => k.2.2 h, fun V k => by
    rcases k.2.1 h0 with h | h
    · exact SIssue.set (r := p) h fun V2 m2 hat2 _ => ⟨rfl, ⟨m2, fun _ => .inr hat2, fun _ => hat2⟩, hat2⟩
    · exact SIssue.set (r := q) h fun V2 m2 hat2 _ => ⟨rfl, ⟨m2, fun _ => .inr hat2, fun _ => hat2⟩, hat2⟩, hk⟩
open Cha in
theorem ediMake_ret {c : SChart} {C : Cht} {v : Value} {l : List Int} {s o : Int} (w0 w : World) (x00 : Ext w0 w) (hc : ChartIs w c C) (hP : PtsIn w0 w c C) (hok : ChartOk C) (hv : IntsIs w v l) (hl : ∀ n ∈ l, I64 n) (hn : l.length ≤ 60) (hT : Tab w) : Ret Tryz.prog 30 #[.agg c.cells.toArray, v, .int .i64 s, .int .i64 o] w (MakeQ w0 C l s o w) := by
  refine ret_of (fun _ _ => sh_edition_Make_ok _ _ _ _) fun R hR => ?_
  unfold sh_edition_Make
  refine box_i fun g w1 x1 hat1 hg1 _ => ?_
  refine alloc_i Ty.SIssue_zero fun b8 w2 x2 hat2 hb8 _ => ?_
  have hat2 : At w2 b8 (.cells SIssue.zero.cells.toArray 55 (0, 0)) := hat2
  refine alloc_i Ty.SChart_zero fun b9 w3 x3 hat3 hb9 _ => ?_
  have hat3 : At w3 b9 (.cells SChart.zero.cells.toArray 26 (0, 0)) := hat3
  have z1 := x1.size
  have z2 := x2.size
  have z3 := x3.size
  have l1 := hat1.lt
  have l2 := hat2.lt
  have x03 := (x1.trans x2).trans x3
  have h1 := hat1.ext (x2.trans x3)
  have h8 := hat2.ext x3
  have b89 : b8 ≠ b9 := by omega
  refine join0 (fun W => Ext w3 W ∧ Cha.valid C = true ∧ Sig.inQ 1 s = true ∧ Sig.inQ 1 o = true ∧ voids C l = true ∧ C.ver < 1000000) ?_ fun K4 hK4 => ?_
  · rintro _ W ⟨xW, hval, hs, ho, hvo, hver⟩
    have hG := valid_iff.1 hval
    have hV := voids_iff.1 hvo
    have hnG := next_good (l := l) hG hver
    obtain ⟨v1, v2⟩ := good_ver hG
    have x0W := x03.trans xW
    rw [SChart.g_all (has_of_at (h1.ext xW))]
    refine callF_ret (ediNext_ret w0 W (x00.trans x0W) (hc.ext x0W) (hP.ext x0W) (good_size hG) (by constructor <;> omega) (good_pos hG) (hv.ext x0W) (voids_rng hV)) ?_
    rintro _ W1 ⟨⟨d, rfl, hdm⟩, y1⟩
    have hd := hdm.is
    refine alloc_i Ty.SChart_zero fun b11 W2 y2 hat11 hb11 _ => ?_
    have hat11 : At W2 b11 (.cells SChart.zero.cells.toArray 26 (0, 0)) := hat11
    have zW := xW.size
    have q1 := y1.size
    have q2 := y2.size
    have l3 := hat3.lt
    refine SChart.set (r := SChart.zero) hat11 fun W3 m3 hat11 s3 => ?_
    have y3 : Ext W1 W3 := ext_step15 y2 m3 (by omega)
    have yW3 := y1.trans y3
    have x33 := xW.trans yW3
    refine drawRY fun W4 y4 _ => ?_
    have x34 := x33.trans y4
    have x04 := x03.trans x34
    have hg : ∀ V, Ext W4 V → Has V g 0 c.cells := fun V x => has_of_at (h1.ext (x34.trans x))
    have hb : ∀ V, Ext W4 V → Has V b11 0 d.cells := fun V x => has_of_at (hat11.ext (y4.trans x))
    have hdv : d.ver = C.ver + 1 := (hd.ver).trans rfl
    have hd4 : ∀ V, Ext W4 V → ChartIs V d (nextC C l) := fun V x => hd.ext ((y3.trans y4).trans x)
    have hc4 : ∀ V, Ext W4 V → ChartIs V c C := fun V x => hc.ext (x04.trans x)
    have hnok := next_ok (l := l) hok v2
    refine det_ry _ (fun V x K => Ty.SChart_f0) ?_
    refine det_ry (.int .i64 d.ver) (fun V x K => load_cell Ty.int_agg (has_at (hb V x) (d := 0) rfl rfl)) ?_
    refine det_ry (.agg c.cells.toArray) (fun V x K => SChart.g_all (hg V x)) ?_
    refine det_ry_ret (u64v (digestV C).1) (fun V x => ediDigest_ret V (hc4 V x) hok (hT.ext (x04.trans x))) ?_
    refine det_ry (.agg d.cells.toArray) (fun V x K => SChart.g_all (hb V x)) ?_
    refine det_ry_ret (u64v (digestV (nextC C l)).1) (fun V x => ediDigest_ret V (hd4 V x) hnok (hT.ext (x04.trans x))) ?_
    refine thr_y (fun vs V => ∃ a h, vs = [a, .agg (SIssue.mk d.ver (digestV C).1 (digestV (nextC C l)).1 h SSig.zero).cells.toArray] ∧ V.ownsRow W4.heap.size 3 1 h.val l.length (iv l)) ?_ ?_
    · refine nd_y (fun u V => V.ownsRow W4.heap.size 3 1 u l.length (iv l)) (fun _ _ _ h x => Own.ext h x) (fun V x _ => callF_ret (cloneInts_ret V (hv.ext (x04.trans x)) (by omega)) fun u V2 hq => ⟨hq.2, Own.mono hq.1 x.size⟩) fun u => ?_
      refine nd_y (fun r V => ∃ h : Hdr, r = .agg (SIssue.mk d.ver (digestV C).1 (digestV (nextC C l)).1 h SSig.zero).cells.toArray ∧ V.ownsRow W4.heap.size 3 1 h.val l.length (iv l)) (fun _ _ _ ⟨h, e, hh⟩ x => ⟨h, e, Own.ext hh x⟩) (fun V x hu => ?_) fun r => ?_
      · obtain ⟨h, rfl⟩ := Hdr.of_sl (Sl.of_owns hu)
        rw [build_i (new_issue15 _ _ _ _)]
        exact ⟨Ext.refl _, h, rfl, hu⟩
      · intro V x ⟨h, e, hh⟩
        exact ⟨_, h, by rw [e], hh⟩
    refine thr_y (fun vs V => ∃ b, vs = [.pointer (some ⟨b, 0, none⟩)] ∧ W4.heap.size ≤ b ∧ At V b (.cells SIssue.zero.cells.toArray 55 (0, 0))) ?_ ?_
    · refine nd_y (fun r V => ∃ b, r = .pointer (some ⟨b, 0, none⟩) ∧ W4.heap.size ≤ b ∧ At V b (.cells SIssue.zero.cells.toArray 55 (0, 0))) (fun _ _ _ ⟨b, e, hb, hh⟩ x => ⟨b, e, hb, hh.ext x⟩) (fun V x _ => alloc_i Ty.SIssue_zero fun b V2 x2 hat hb _ => ⟨x2, b, rfl, by have := x.size; omega, hat⟩) fun r => ?_
      intro V x ⟨b, e, hb, hh⟩
      exact ⟨b, by rw [e], hb, hh⟩
    rintro hh V xV ⟨_, ⟨_, ⟨a, h, e1, hh1⟩⟩, b12, e2, hb12, hat12z⟩
    simp only [List.cons.injEq, and_true] at e1 e2
    rw [e1.2, e2]
    have q4 := y4.size
    have qV := xV.size
    refine SIssue.set (r := SIssue.zero) hat12z fun V1 n1 hat12o t1 => ?_
    have l11 := hat11.lt
    have q3 := y3.size
    have x0V := x04.trans xV
    have z0V := x0V.size
    have x0V1 : Ext w V1 := ext_step15 x0V n1 (by omega)
    have x3V : Ext w3 V := x34.trans xV
    have x3V1 : Ext w3 V1 := ext_step15 x3V n1 (by have := x3V.size; omega)
    have hh2 := Own.mod hh1 n1 (Own.off_at hh1 hat12z (by decide))
    have hI1 : IssueIs V1 (SIssue.mk d.ver (digestV C).1 (digestV (nextC C l)).1 h SSig.zero) (bareOf C l) := ⟨hdv, rfl, rfl, Sl.of_owns hh2, rfl⟩
    rw [SIssue.g_all (has_of_at hat12o)]
    refine callF_ret (ediInts_ret V1 hI1 (by show l.length < _; omega)) ?_
    rintro m V2 ⟨hm, u2⟩
    refine callF_ret (Sign_ret (issInts_small (I := bareOf C l) (by show I64 (C.ver + 1); constructor <;> omega) hl (by show l.length ≤ _; omega)) V2 hm (hT.ext (x0V1.trans u2))) ?_
    rintro _ V3 ⟨rfl, u3⟩
    rw [ext2_0, ext2_1]
    have u13 := u2.trans u3
    refine SIssue.s_sig (x := (Sig.signV s o (issInts (bareOf C l))).1) (hat12o.ext u13) fun V4 n4 hat12 t4 => ?_
    let t : SIssue := { SIssue.mk d.ver (digestV C).1 (digestV (nextC C l)).1 h SSig.zero with sig := (Sig.signV s o (issInts (bareOf C l))).1 }
    have hat12 : At V4 b12 (.cells t.cells.toArray 55 (0, 0)) := hat12
    have hh3 := Own.ext hh2 u13
    have hh4 := Own.mod hh3 n4 (Own.off_at hh3 (hat12o.ext u13) (by decide))
    have x3V4 : Ext w3 V4 := ext_step15 (x3V1.trans u13) n4 (by have := x3V.size; omega)
    have x1V4 : Ext W1 V4 := ext_step15 ((y3.trans y4).trans (ext_step15 xV n1 (by omega)) |>.trans u13) n4 (by omega)
    have h84 := h8.ext x3V4
    have h94 := hat3.ext x3V4
    have h114 : At V4 b11 (.cells d.cells.toArray 26 (0, 0)) := (hat11.ext ((y4.trans (ext_step15 xV n1 (by omega))).trans u13)).mod n4 (by omega)
    refine draw_turn2 b8 (.cells SIssue.zero.cells.toArray 55 (0, 0)) (.cells t.cells.toArray 55 (0, 0)) fun V5 x5 s5 => ?_
    refine det_turn2 (.agg t.cells.toArray) (fun V x K => SIssue.g_all (has_of_at ((hat12.ext x5).mod x.1 (by omega)))) ?_
    refine det_turn2 (.agg d.cells.toArray) (fun V x K => SChart.g_all (has_of_at ((h114.ext x5).mod x.1 (by omega)))) ?_
    refine det_fill_iss (h84.ext x5) ?_
    intro V6 k6 hψ
    have h86 := hψ.2
    have h96 := (h94.ext x5).mod k6.1 b89.symm
    refine SChart.set (r := SChart.zero) h96 fun V7 m7 h97 _ => ?_
    have hh5 := Own.ext hh4 x5
    have hh6 := Own.mod hh5 k6.1 (Own.off_at hh5 (h84.ext x5) (by decide))
    have hh7 := Own.mod hh6 m7 (Own.off_at hh6 h96 (by decide))
    have hmk : makeV C l s o = (issOf C l s o, nextC C l, 0) := by
      unfold makeV
      rw [if_pos (by rw [hval, hs, ho]; rfl), if_pos hvo, if_neg (by omega)]
    have q1' := x1V4.size
    have q5 := x5.size
    have q6 := x03.size
    have q7 := x00.size
    have mm : Mod (fun k => w0.heap.size ≤ k ∧ k < W.heap.size) W1 V7 := ((Mod.of_ext (x1V4.trans x5)).trans (k6.1.mono fun k _ h => by omega)).trans (m7.mono fun k _ h => by omega)
    refine res_i (rv_cell (issue_var (h86.mod m7 b89)) (rv_cell (chart_var h97) (rv_tmp (rv_nil _)))) (hR _ _ ⟨⟨t, d, by rw [hmk]; rfl, ?_, by rw [hmk]; exact (hdm.mod mm).mono (by omega)⟩, ?_⟩)
    · rw [hmk]
      exact ⟨hdv, rfl, rfl, Sl.of_owns hh7, rfl⟩
    · exact (((Mod.of_ext ((x03.trans x3V4).trans x5) : Mod (w.heap.size ≤ ·) w V5).trans (k6.1.mono fun k _ h => by omega)).trans (m7.mono fun k _ h => by omega)).new
  · refine join1 (fun q W => Ext w3 W ∧ q = .bool (!(Cha.valid C && (Sig.inQ 1 s && Sig.inQ 1 o)))) ?_ fun K5 hK5 => ?_
    · rintro h13 _ W hq ⟨xW, rfl⟩
      rw [hq]
      have x0W := x03.trans xW
      refine Br_i (fun hb => ?_) fun hb => ?_
      · exact make_bad hR x0W (h8.ext xW) (hat3.ext xW) (by omega) (by omega) b89 (by unfold makeV; rw [if_neg fun h => by rw [h] at hb; cases hb])
      · have hb : (Cha.valid C && (Sig.inQ 1 s && Sig.inQ 1 o)) = true := by simpa using hb
        have hb' := hb
        rw [Bool.and_eq_true, Bool.and_eq_true] at hb'
        rw [SChart.g_all (has_of_at (h1.ext xW))]
        refine callF_ret (voids_ret W (hc.ext x0W) (hv.ext x0W)) ?_
        rintro _ W1 ⟨rfl, y1⟩
        rw [un_not]
        have xW1 := xW.trans y1
        refine Br_i (fun hb2 => ?_) fun hb2 => ?_
        · exact make_bad hR (x03.trans xW1) (h8.ext xW1) (hat3.ext xW1) (by omega) (by omega) b89 (by unfold makeV; rw [if_pos hb, if_neg fun h => by rw [h] at hb2; cases hb2])
        · have hb2 : voids C l = true := by simpa using hb2
          rw [SChart.g_ver (has_of_at (h1.ext xW1)), hc.ver, bin_geq]
          refine Br_i (fun hb3 => ?_) fun hb3 => ?_
          · exact make_bad hR (x03.trans xW1) (h8.ext xW1) (hat3.ext xW1) (by omega) (by omega) b89 (by unfold makeV; rw [if_pos hb, if_pos hb2, if_pos (dec_t hb3)])
          · exact hK4 _ ⟨xW1, hb'.1, hb'.2.1, hb'.2.2, hb2, by have := dec_f hb3; omega⟩
    · rw [SChart.g_all (has_of_at h1)]
      refine callF_ret (chValid_ret w3 (hc.ext x03) hok) ?_
      rintro _ W1 ⟨rfl, y1⟩
      rw [un_not]
      refine Gd_i (fun hb => ?_) fun hb => ?_
      · have hb : Cha.valid C = true := by simpa using hb
        refine callF_ret (isSecret_ret s W1) ?_
        rintro _ W2 ⟨rfl, y2⟩
        rw [un_not]
        refine Gd_i (fun hb2 => ?_) fun hb2 => ?_
        · have hb2 : Sig.inQ 1 s = true := by simpa using hb2
          refine callF_ret (isSecret_ret o W2) ?_
          rintro _ W3 ⟨rfl, y3⟩
          rw [un_not]
          exact hK5 _ _ ⟨(y1.trans y2).trans y3, by rw [hb, hb2]; rfl⟩
        · have hb2 : Sig.inQ 1 s = false := by simpa using hb2
          exact hK5 _ _ ⟨y1.trans y2, by rw [hb, hb2]; rfl⟩
      · have hb : Cha.valid C = false := by simpa using hb
        exact hK5 _ _ ⟨y1, by rw [hb]; rfl⟩
end Go.Proofs.YtnbcdaonkdffkaaGreatDoor
namespace Go.Proofs.YtnbcdaonkdffkaaGreatDoor
set_option maxRecDepth 100000
set_option maxHeartbeats 16000000
open Sh Go.RowKit
structure Cnd where
  e : Int
  f : FuncId
  c : Array Value
def Cnd.cells (x : Cnd) : List Value := [.int .i64 x.e, .func (.func x.f) #[] x.c]
def Cnd.val (x : Cnd) : Value := .agg x.cells.toArray
theorem Cnd.len (x : Cnd) : x.cells.length = 2 := rfl
namespace Ty
theorem Cnd_row : Tryz.prog.underlying 147 = some (.slice 121) := by kernel_rfl
theorem Cnd_info : (Tryz.prog.info? 121).map (fun i => (i.zero, i.size, i.bytes)) = some (some (.agg #[.int .i64 0, .nilFunc]), 2, 16) := by kernel_rfl
theorem Cnd_agg (w : World) : (isAgg 121).run Tryz.prog w = .ok true w := by kernel_rfl
theorem Cnd_size (w : World) : (sizeOf 121).run Tryz.prog w = .ok 2 w := by kernel_rfl
theorem Cnd_zero (w : World) : (zeroValue 121).run Tryz.prog w = .ok (.agg #[.int .i64 0, .nilFunc]) w := by kernel_rfl
theorem Cnd_f0_run (w : World) (b o : Nat) : (Instr.fieldAt 121 (.pointer (some ⟨b, o, none⟩)) 0).run Tryz.prog w = .ok (.pointer (some ⟨b, o, none⟩)) w := by kernel_rfl
theorem Cnd_f1_run (w : World) (b o : Nat) : (Instr.fieldAt 121 (.pointer (some ⟨b, o, none⟩)) 1).run Tryz.prog w = .ok (.pointer (some ⟨b, o + 1, none⟩)) w := by kernel_rfl
theorem fn_agg (w : World) : (isAgg 29).run Tryz.prog w = .ok false w := by kernel_rfl
theorem errno_agg (w : World) : (isAgg 31).run Tryz.prog w = .ok false w := by kernel_rfl
end Ty
theorem new_cnd (e : Int) (f : FuncId) (c : Array Value) : Tryz.prog.built 121 [(0, .int .i64 e), (1, .func (.func f) #[] c)] = some (Cnd.mk e f c).cells.toArray := by kernel_rfl
theorem first_ret {v : Value} {L : List Cnd} {b : Nat → Bool} (S : Nat → Prop) (I : Nat → World → Prop) (w : World) (h0 : I 0 w) (hS : ∀ j, S j → j < w.heap.size)
    (hs : ∀ k W W', I k W → Ext W W' → I k W') (hv : ∀ k W, I k W → Sl W 2 v L.length (fl Cnd.cells L)) (hgo : ∀ x ∈ L, goes Tryz.prog x.f = true)
    (hf : ∀ k W, (hk : k < L.length) → I k W → (∀ j, j < k → b j = true) → Ret Tryz.prog L[k].f L[k].c W fun r W' => r = .bool (b k) ∧ Mod S W W' ∧ (b k = true → I (k + 1) W')) :
    Ret Tryz.prog 83 #[v] w fun r w' => ((∃ k, ∃ hk : k < L.length, b k = false ∧ (∀ j, j < k → b j = true) ∧ r = .int .i64 L[k].e) ∨ ((∀ j, j < L.length → b j = true) ∧ r = .int .i64 0 ∧ I L.length w')) ∧ Mod S w w' := by
  refine ret_of (fun _ _ => sh_edition_first_ok _) fun R hR => ?_
  unfold sh_edition_first
  obtain ⟨i, hi, hz, hsz, hby⟩ := Ty.info_parts Ty.Cnd_info
  have hle := Sl.le (hv 0 w h0)
  rw [(hv 0 w h0).len Ty.Cnd_row]
  refine loop1 (fun x W => ∃ k : Nat, k ≤ L.length ∧ x = .int .i64 k ∧ I k W ∧ (∀ j, j < k → b j = true) ∧ Mod S w W) (fun x _ => L.length - (intOf x).toNat) ⟨0, by omega, rfl, h0, fun j hj => by omega, Mod.refl _ _⟩ ?_
  rintro h _ W hx ⟨k, hk, rfl, hI, hno, mW⟩ K hK
  rw [hx, bin_lss]
  refine Br_i (fun hb => ?_) fun hb => ?_
  · have hlt : k < L.length := by have := dec_t hb; omega
    obtain ⟨b1, o, h1, h2, h3⟩ := Sl.el (c := Cnd.cells) (sz := 2) Cnd.len (hv k W hI) Ty.Cnd_row hi hsz (k := .i64) hlt (by decide)
    have h1 : Has W b1 o L[k].cells := h1
    rw [h3, load_arr (n := 2) (xs := L[k].cells) Ty.Cnd_agg Ty.Cnd_size rfl h1]
    refine alloc_i Ty.Cnd_zero fun b4 w2 x2 hat2 hb4 _ => ?_
    have hat2 : At w2 b4 (.cells #[.int .i64 0, .nilFunc] 121 (0, 0)) := hat2
    refine store_all (n := 2) (v := .agg L[k].cells.toArray) Ty.Cnd_size hat2 rfl rfl (by
      intro u hu
      have hu : u ∈ L[k].cells := by simpa [Value.cells] using hu
      simp only [Cnd.cells, List.mem_cons, List.not_mem_nil, or_false] at hu
      rcases hu with rfl | rfl <;> rfl) fun w3 m3 h3 s3 => ?_
    have h3 : At w3 b4 (.cells L[k].cells.toArray 121 (0, 0)) := h3
    have z2 := x2.size
    have x3 : Ext W w3 := ext_step15 x2 m3 (by omega)
    rw [DoV_ok (Ty.Cnd_f1_run w3 b4 0), load_cell (u := .func (.func L[k].f) #[] L[k].c) Ty.fn_agg (has_at (has_of_at h3) (d := 1) rfl rfl)]
    rw [callV_func (hgo _ (List.getElem_mem hlt))]
    have hc : Ret Tryz.prog L[k].f ((#[] : Array Value) ++ #[] ++ L[k].c) w3 fun r W' => r = .bool (b k) ∧ Mod S w3 W' ∧ (b k = true → I (k + 1) W') := by
      have e : ((#[] : Array Value) ++ #[] ++ L[k].c) = L[k].c := by simp
      rw [e]
      exact hf k w3 hlt (hs _ _ _ hI x3) hno
    refine callF_ret hc ?_
    rintro _ w4 ⟨rfl, m4, hI4⟩
    have zW := mW.size
    have x34 := x3.size
    have hnS : ¬ S b4 := fun h => by have := hS _ h; omega
    have h4 := h3.mod m4 hnS
    have mw4 : Mod S w w4 := (mW.trans (Mod.of_ext x3)).trans m4
    rw [un_not]
    refine Br_i (fun hb2 => ?_) fun hb2 => ?_
    · rw [DoV_ok (Ty.Cnd_f0_run w4 b4 0), load_cell (u := .int .i64 L[k].e) Ty.errno_agg (has_at (has_of_at h4) (d := 0) rfl rfl)]
      exact hR _ _ ⟨.inl ⟨k, hlt, by simpa using hb2, hno, rfl⟩, mw4⟩
    · have hbk : b k = true := by simpa using hb2
      rw [bin_add, i64_wrap (by omega) (by omega)]
      refine hK _ _ ⟨k + 1, by omega, by simp, hI4 hbk, fun j hj => ?_, mw4⟩ (by simp [intOf]; omega)
      by_cases hjk : j < k
      · exact hno j hjk
      · have : j = k := by omega
        subst this; exact hbk
  · have hke : k = L.length := by have := dec_f hb; omega
    subst hke
    exact hR _ _ ⟨.inr ⟨hno, rfl, hI⟩, mW⟩
theorem det_ext_ret {P : Program} {X : List PanicEntry → World → Prop} {w0 : World} {f : FuncId} {args : Array Value} {rest : Value → (World → Prop) → Prop} (c : Value) (h : ∀ w1, Ext w0 w1 → Ret P f args w1 fun r w' => r = c ∧ Ext w1 w') (hk : rest c fun _ => True) :
    DetOp Ext Ext w0 (fun w1 K => CallF P f args w1 K X) rest :=
  ⟨c, fun _ => True, fun _ _ _ _ => trivial, fun w1 h1 => callF_ret (h w1 h1) fun v w2 hq => ⟨hq.1, hq.2, trivial⟩, hk⟩
theorem eql_u64c {w : World} {K : Value → World → Prop} {X : List PanicEntry → World → Prop} {t : TypeId} {ox oy : Operand} {d e : BitVec 64} : DoV Tryz.prog (binS .eql t ox oy (u64v d) (u64v e)) w K X = K (.bool (decide (d = e))) w := by
  unfold u64v
  rw [bin_eql]
  congr 2
  rw [decide_eq_decide]
  exact ⟨fun h => BitVec.eq_of_toNat_eq (Int.ofNat.inj h), fun h => by rw [h]⟩
open Edi Cha
section conds
variable {c : SChart} {C : Cht} {s : SIssue} {I : Iss}
theorem ap1_ret {p : Int} {g b5 : Nat} (w : World) (hc : ChartIs w c C) (hok : ChartOk C) (hg : Has w g 0 c.cells) (hp : At w b5 (.cells #[.int .i64 p] 3 (0, 0))) : Ret Tryz.prog 84 #[.pointer (some ⟨g, 0, none⟩), .pointer (some ⟨b5, 0, none⟩)] w fun r w' => r = .bool (Cha.valid C && Sig.member p) ∧ Ext w w' := by
  refine ret_of (fun _ _ => sh_edition_Apply_1_ok _ _) fun R hR => ?_
  unfold sh_edition_Apply_1
  rw [SChart.g_all hg]
  refine callF_ret (chValid_ret w hc hok) ?_
  rintro _ w1 ⟨rfl, x1⟩
  refine Gd_i (fun hb => ?_) fun hb => hR _ _ ⟨by rw [show Cha.valid C = false by simpa using hb, Bool.false_and], x1⟩
  rw [load_e (u := .int .i64 p) Ty.int_agg (hp.ext x1) rfl]
  refine callF_ret (Member_ret p w1) ?_
  rintro _ w2 ⟨rfl, x2⟩
  exact hR _ _ ⟨by rw [hb, Bool.true_and], x1.trans x2⟩
theorem ap2_ret {g b4 : Nat} (w : World) (hc : ChartIs w c C) (hs : IssueIs w s I) (hv : I64 (C.ver + 1)) (hg : Has w g 0 c.cells) (h4 : Has w b4 0 s.cells) : Ret Tryz.prog 86 #[.pointer (some ⟨b4, 0, none⟩), .pointer (some ⟨g, 0, none⟩)] w fun r w' => r = .bool (decide (I.ver = C.ver + 1) && decide (I.ver ≤ 1000000)) ∧ Ext w w' := by
  refine ret_of (fun _ _ => sh_edition_Apply_2_ok _ _) fun R hR => ?_
  unfold sh_edition_Apply_2
  rw [SIssue.g_ver h4, hs.ver, SChart.g_ver hg, hc.ver, bin_add, i64_wrap hv.1 hv.2, bin_eql]
  refine Gd_i (fun hb => ?_) fun hb => ?_
  · rw [SIssue.g_ver h4, hs.ver, bin_leq]
    exact hR _ _ ⟨by rw [show decide (I.ver = C.ver + 1) = true by simpa using hb]; rfl, Ext.refl _⟩
  · exact hR _ _ ⟨by rw [show decide (I.ver = C.ver + 1) = false by simpa using hb]; rfl, Ext.refl _⟩
theorem ap3_ret {g b4 : Nat} (w : World) (hc : ChartIs w c C) (hok : ChartOk C) (hT : Tab w) (hs : IssueIs w s I) (hg : Has w g 0 c.cells) (hgl : g < w.heap.size) (h4 : Has w b4 0 s.cells) (hbl : b4 < w.heap.size) : Ret Tryz.prog 87 #[.pointer (some ⟨b4, 0, none⟩), .pointer (some ⟨g, 0, none⟩)] w fun r w' => r = .bool (decide (I.before = (Cha.digestV C).1)) ∧ Ext w w' := by
  refine ret_of (fun _ _ => sh_edition_Apply_3_ok _ _) fun R hR => ?_
  unfold sh_edition_Apply_3
  refine draw_ext fun w1 x1 => ?_
  refine det_read _ (fun V x K => Ty.SIssue_f1) ?_
  refine det_read (u64v s.before) (fun V x K => load_cell Ty.u64_agg (has_at (h4.ext hbl (x1.trans x)) (d := 1) rfl rfl)) ?_
  refine det_read (.agg c.cells.toArray) (fun V x K => SChart.g_all (hg.ext hgl (x1.trans x))) ?_
  refine det_ext_ret (u64v (Cha.digestV C).1) (fun V x => ediDigest_ret V (hc.ext (x1.trans x)) hok (hT.ext (x1.trans x))) ?_
  intro w2 x2 _
  rw [eql_u64c, hs.before]
  exact hR _ _ ⟨rfl, x1.trans x2⟩
theorem ap4_ret {g b4 : Nat} (w : World) (hc : ChartIs w c C) (hs : IssueIs w s I) (hg : Has w g 0 c.cells) (h4 : Has w b4 0 s.cells) : Ret Tryz.prog 88 #[.pointer (some ⟨g, 0, none⟩), .pointer (some ⟨b4, 0, none⟩)] w fun r w' => r = .bool (Edi.voids C I.void) ∧ Ext w w' := by
  refine ret_of (fun _ _ => sh_edition_Apply_4_ok _ _) fun R hR => ?_
  unfold sh_edition_Apply_4
  rw [SChart.g_all hg, SIssue.g_void h4]
  refine callF_ret (voids_ret w hc hs.void) ?_
  rintro _ w1 ⟨rfl, x1⟩
  exact hR _ _ ⟨rfl, x1⟩
theorem ap5_ret {u0 : SChart} {g b4 b8 : Nat} {N : Nat} (w0 w : World) (x0 : Ext w0 w) (hc : ChartIs w c C) (hP : PtsIn w0 w c C) (hok : ChartOk C) (hS : SizeP C) (hpos : 0 < C.cells.length) (hver : C.ver ≤ 1000000) (hT : Tab w0) (hs : IssueIs w s I) (hg : At w g (.cells c.cells.toArray 26 (0, 0))) (h4 : At w b4 (.cells s.cells.toArray 55 (0, 0)))
    (h8 : At w b8 (.cells u0.cells.toArray 26 (0, 0))) (hne : g ≠ b8) (hN : N ≤ w.heap.size) (h8N : w0.heap.size ≤ b8 ∧ b8 < N) (hV : VoidsP C I.void) :
    Ret Tryz.prog 89 #[.pointer (some ⟨g, 0, none⟩), .pointer (some ⟨b4, 0, none⟩), .pointer (some ⟨b8, 0, none⟩)] w fun r w' => r = .bool (decide (I.after = (Cha.digestV (nextC C I.void)).1)) ∧ Mod (· = b8) w w' ∧ ∃ u : SChart, At w' b8 (.cells u.cells.toArray 26 (0, 0)) ∧ DLive w0 N w' u (nextC C I.void) := by
  refine ret_of (fun _ _ => sh_edition_Apply_5_ok _ _ _) fun R hR => ?_
  unfold sh_edition_Apply_5
  have hv0 : -9223372036854775808 ≤ C.ver := hok.nums.1.1
  rw [SChart.g_all (has_of_at hg), SIssue.g_void (has_of_at h4)]
  refine callF_ret (ediNext_ret w0 w x0 hc hP hS (by constructor <;> omega) hpos hs.void (voids_rng hV)) ?_
  rintro _ w1 ⟨⟨u, rfl, hu⟩, x1⟩
  have l8 := h8.lt
  have l4 := h4.lt
  have z1 := x1.size
  have hu : DLive w0 N w1 u (nextC C I.void) := hu.mono hN
  refine SChart.set (r := u0) (h8.ext x1) fun w2 m2 h82 s2 => ?_
  have hu2 := hu.mod (m2.mono fun k hk h => by omega)
  have h42 := (h4.ext x1).mod m2 (At.inj (h4.ext x1) (h8.ext x1) (by decide))
  have mw2 : Mod (· = b8) w w2 := (Mod.of_ext x1).trans m2
  have x02 : Ext w0 w2 := ((Mod.of_ext x0 : Mod (w0.heap.size ≤ ·) w0 w).trans (mw2.mono fun k hk h => by omega)).new
  refine draw_ext fun w3 x3 => ?_
  have hu3 := hu2.mod (Mod.of_ext x3)
  refine det_read _ (fun V x K => Ty.SIssue_f2) ?_
  refine det_read (u64v s.after) (fun V x K => load_cell Ty.u64_agg (has_at (has_of_at ((h42.ext x3).ext x)) (d := 2) rfl rfl)) ?_
  refine det_read (.agg u.cells.toArray) (fun V x K => SChart.g_all (has_of_at ((h82.ext x3).ext x))) ?_
  refine det_ext_ret (u64v (Cha.digestV (nextC C I.void)).1) (fun V x => ediDigest_ret V ((hu3.mod (Mod.of_ext x)).is) (next_ok hok hver) (hT.ext (x02.trans (x3.trans x)))) ?_
  intro w4 x4 _
  rw [eql_u64c, hs.after]
  exact hR _ _ ⟨rfl, mw2.trans (Mod.of_ext (x3.trans x4)), u, (h82.ext x3).ext x4, hu3.mod (Mod.of_ext x4)⟩
theorem ap6_ret {p : Int} {b4 b5 : Nat} (w : World) (hs : IssueIs w s I) (hIok : IssueOk I) (hn : I.void.length ≤ 60) (hT : Tab w) (h4 : Has w b4 0 s.cells) (hbl : b4 < w.heap.size) (hp : At w b5 (.cells #[.int .i64 p] 3 (0, 0))) :
    Ret Tryz.prog 90 #[.pointer (some ⟨b5, 0, none⟩), .pointer (some ⟨b4, 0, none⟩)] w fun r w' => r = .bool (Sig.verV p I.sig (issInts I)).1 ∧ Ext w w' := by
  refine ret_of (fun _ _ => sh_edition_Apply_6_ok _ _) fun R hR => ?_
  unfold sh_edition_Apply_6
  refine drawRY fun w1 x1 _ => ?_
  have h41 : ∀ V, Ext w1 V → Has V b4 0 s.cells := fun V x => h4.ext hbl (x1.trans x)
  refine det_ry (.int .i64 p) (fun V x K => load_e (u := .int .i64 p) Ty.int_agg ((hp.ext x1).ext x) rfl) ?_
  refine det_ry _ (fun V x K => Ty.SIssue_f4) ?_
  refine det_ry (.agg s.sig.cells.toArray) (fun V x K => load_arr (n := 2) (xs := s.sig.cells) Ty.SSig_agg Ty.SSig_size rfl (fun j u hu => has_part (h41 V x) (d := 4) (n := 2) (xs := s.sig.cells) (by omega) rfl hu)) ?_
  refine det_ry (.agg s.cells.toArray) (fun V x K => SIssue.g_all (h41 V x)) ?_
  have hsm : SmallList (issInts I) := issInts_small hIok.ver hIok.void (by omega)
  refine thr_y (fun vs V => ∃ a b c d, vs = [a, b, c, d, .int .i64 (Sig.verV p I.sig (issInts I)).2, .bool (Sig.verV p I.sig (issInts I)).1]) ?_ ?_
  · refine nd_y (fun v V => IntsIs V v (issInts I)) (fun _ _ _ h x => h.ext x) (fun V x _ => callF_ret (ediInts_ret V (hs.ext (x1.trans x)) (by omega)) fun v V2 hq => ⟨hq.2, hq.1⟩) fun v6 => ?_
    refine nd_y (fun v V => v = .tuple #[.bool (Sig.verV p I.sig (issInts I)).1, .int .i64 (Sig.verV p I.sig (issInts I)).2]) (fun _ _ _ h x => h) (fun V x h => by rw [hs.sig]; exact callF_ret (Verify_ret hsm V h (hT.ext (x1.trans x))) fun v V2 hq => ⟨hq.2, hq.1⟩) fun v7 => ?_
    refine nd_y (fun v V => v = .tuple #[.bool (Sig.verV p I.sig (issInts I)).1, .int .i64 (Sig.verV p I.sig (issInts I)).2]) (fun _ _ _ h x => h) (fun V x h => ⟨Ext.refl _, h⟩) fun v8 => ?_
    refine nd_y (fun v V => v = .bool (Sig.verV p I.sig (issInts I)).1 ∧ v8 = .tuple #[.bool (Sig.verV p I.sig (issInts I)).1, .int .i64 (Sig.verV p I.sig (issInts I)).2]) (fun _ _ _ h x => h) (fun V x h => by subst h; rw [ext2_0]; exact ⟨Ext.refl _, rfl, rfl⟩) fun v9 => ?_
    refine nd_y (fun v V => v = .int .i64 (Sig.verV p I.sig (issInts I)).2 ∧ v9 = .bool (Sig.verV p I.sig (issInts I)).1) (fun _ _ _ h x => h) (fun V x h => by rw [h.2, ext2_1]; exact ⟨Ext.refl _, rfl, h.1⟩) fun v10 => ?_
    refine nd_y (fun v V => v = .bool (Sig.verV p I.sig (issInts I)).1 ∧ v10 = .int .i64 (Sig.verV p I.sig (issInts I)).2) (fun _ _ _ h x => h) (fun V x h => ⟨Ext.refl _, h.2, h.1⟩) fun v11 => ?_
    intro V x h
    exact ⟨_, _, _, _, by rw [h.1, h.2]⟩
  rintro hh V xV ⟨_, _, a, b, c, d, e1⟩
  simp only [List.cons.injEq, and_true] at e1
  rw [e1.2.2.2.2.1, e1.2.2.2.2.2, bin_eql]
  refine Gd_i (fun hb => hR _ _ ⟨rfl, x1.trans xV⟩) fun hb => hR _ _ ⟨?_, x1.trans xV⟩
  congr 1
  revert hb
  unfold Sig.verV
  split
  · intro hb; simp at hb
  · intro _; rfl
end conds
namespace Edi
noncomputable def applyB (C : Cht) (I : Iss) (p : Int) (k : Nat) : Bool :=
  if k = 0 then Cha.valid C && Sig.member p else if k = 1 then decide (I.ver = C.ver + 1) && decide (I.ver ≤ 1000000) else if k = 2 then decide (I.before = (Cha.digestV C).1) else
  if k = 3 then voids C I.void else if k = 4 then decide (I.after = (Cha.digestV (nextC C I.void)).1) else (Sig.verV p I.sig (issInts I)).1
def applyE (k : Nat) : Int := if k = 0 then 1 else if k = 1 then 40 else if k = 2 then 30 else if k = 3 then 7 else if k = 4 then 30 else 31
open Classical in
noncomputable def applyV (C : Cht) (I : Iss) (p : Int) : Cht × Int :=
  if applyB C I p 0 = true then if applyB C I p 1 = true then if applyB C I p 2 = true then if applyB C I p 3 = true then if applyB C I p 4 = true then if applyB C I p 5 = true then (nextC C I.void, 0)
  else (Cha.noC, 31) else (Cha.noC, 30) else (Cha.noC, 7) else (Cha.noC, 30) else (Cha.noC, 40) else (Cha.noC, 1)
theorem applyV_ok {C : Cht} {I : Iss} {p : Int} (h : ∀ j, j < 6 → applyB C I p j = true) : applyV C I p = (nextC C I.void, 0) := by
  unfold applyV
  rw [if_pos (h 0 (by omega)), if_pos (h 1 (by omega)), if_pos (h 2 (by omega)), if_pos (h 3 (by omega)), if_pos (h 4 (by omega)), if_pos (h 5 (by omega))]
theorem applyV_bad {C : Cht} {I : Iss} {p : Int} {k : Nat} (hk : k < 6) (h : ∀ j, j < k → applyB C I p j = true) (hf : applyB C I p k = false) : applyV C I p = (Cha.noC, applyE k) := by
  have hn : ¬ applyB C I p k = true := by rw [hf]; exact Bool.false_ne_true
  unfold applyV
  match k, hk with
  | 0, _ => rw [if_neg hn]; rfl
  | 1, _ => rw [if_pos (h 0 (by omega)), if_neg hn]; rfl
  | 2, _ => rw [if_pos (h 0 (by omega)), if_pos (h 1 (by omega)), if_neg hn]; rfl
  | 3, _ => rw [if_pos (h 0 (by omega)), if_pos (h 1 (by omega)), if_pos (h 2 (by omega)), if_neg hn]; rfl
  | 4, _ => rw [if_pos (h 0 (by omega)), if_pos (h 1 (by omega)), if_pos (h 2 (by omega)), if_pos (h 3 (by omega)), if_neg hn]; rfl
  | 5, _ => rw [if_pos (h 0 (by omega)), if_pos (h 1 (by omega)), if_pos (h 2 (by omega)), if_pos (h 3 (by omega)), if_pos (h 4 (by omega)), if_neg hn]; rfl
theorem applyE_ne {k : Nat} : applyE k ≠ 0 := by
  unfold applyE
  repeat' split
  all_goals decide
end Edi
def ApplyQ (w0 : World) (C : Cht) (I : Iss) (p : Int) (w : World) (r : Value) (w' : World) : Prop :=
  (∃ u : SChart, r = .tuple #[.agg u.cells.toArray, .int .i64 (Edi.applyV C I p).2] ∧ DLive w0 w.heap.size w' u (Edi.applyV C I p).1) ∧ Ext w w'
def conds (g b4 b5 b8 : Nat) : List Cnd := [⟨1, 84, #[.pointer (some ⟨g, 0, none⟩), .pointer (some ⟨b5, 0, none⟩)]⟩, ⟨40, 86, #[.pointer (some ⟨b4, 0, none⟩), .pointer (some ⟨g, 0, none⟩)]⟩,
  ⟨30, 87, #[.pointer (some ⟨b4, 0, none⟩), .pointer (some ⟨g, 0, none⟩)]⟩, ⟨7, 88, #[.pointer (some ⟨g, 0, none⟩), .pointer (some ⟨b4, 0, none⟩)]⟩,
  ⟨30, 89, #[.pointer (some ⟨g, 0, none⟩), .pointer (some ⟨b4, 0, none⟩), .pointer (some ⟨b8, 0, none⟩)]⟩, ⟨31, 90, #[.pointer (some ⟨b5, 0, none⟩), .pointer (some ⟨b4, 0, none⟩)]⟩]
theorem conds_e {g b4 b5 b8 : Nat} : ∀ {k : Nat} (h : k < (conds g b4 b5 b8).length), (conds g b4 b5 b8)[k].e = applyE k
  | 0, _ => rfl
  | 1, _ => rfl
  | 2, _ => rfl
  | 3, _ => rfl
  | 4, _ => rfl
  | 5, _ => rfl
  | k + 6, h => absurd h (by show ¬ k + 6 < 6; omega)
theorem conds_go {g b4 b5 b8 : Nat} : ∀ x ∈ conds g b4 b5 b8, goes Tryz.prog x.f = true := by
  intro x hx
  simp only [conds, List.mem_cons, List.not_mem_nil, or_false] at hx
  rcases hx with rfl | rfl | rfl | rfl | rfl | rfl <;> kernel_rfl
open Cha in
theorem ediApply_ret {c : SChart} {C : Cht} {s : SIssue} {I : Iss} {p : Int} (w0 w : World) (x00 : Ext w0 w) (hc : ChartIs w c C) (hP : PtsIn w0 w c C) (hok : ChartOk C) (hs : IssueIs w s I) (hIok : IssueOk I) (hn : I.void.length ≤ 60) (hT : Tab w0) : Ret Tryz.prog 36 #[.agg c.cells.toArray, .agg s.cells.toArray, .int .i64 p] w (ApplyQ w0 C I p w) := by
  refine ret_of (fun _ _ => sh_edition_Apply_ok _ _ _) fun R hR => ?_
  unfold sh_edition_Apply
  refine box_i fun g w1 x1 hat1 hg1 _ => ?_
  refine box_i fun b4 w2 x2 hat2 hg2 _ => ?_
  refine box_i fun b5 w3 x3 hat3 hg3 _ => ?_
  refine alloc_i Ty.SChart_zero fun b6 w4 x4 hat4 hb4 _ => ?_
  refine alloc_i Ty.SChart_zero fun b8 w5 x5 hat5 hb5 _ => ?_
  have hat1 : At w1 g (.cells c.cells.toArray 26 (0, 0)) := hat1
  have hat2 : At w2 b4 (.cells s.cells.toArray 55 (0, 0)) := hat2
  have hat3 : At w3 b5 (.cells #[.int .i64 p] 3 (0, 0)) := hat3
  have hat4 : At w4 b6 (.cells SChart.zero.cells.toArray 26 (0, 0)) := hat4
  have hat5 : At w5 b8 (.cells SChart.zero.cells.toArray 26 (0, 0)) := hat5
  have z1 := x1.size
  have z2 := x2.size
  have z3 := x3.size
  have z4 := x4.size
  have z5 := x5.size
  have l1 := hat1.lt
  have l2 := hat2.lt
  have l3 := hat3.lt
  have l4 := hat4.lt
  have l5 := hat5.lt
  have x05 := (((x1.trans x2).trans x3).trans x4).trans x5
  have h1 := hat1.ext (((x2.trans x3).trans x4).trans x5)
  have h2 := hat2.ext ((x3.trans x4).trans x5)
  have h3 := hat3.ext (x4.trans x5)
  have h4 := hat4.ext x5
  obtain ⟨i, hi, hz, hsz, hby⟩ := Ty.info_parts Ty.Cnd_info
  rw [mk_func, build_i (new_cnd _ _ _), mk_func, build_i (new_cnd _ _ _), mk_func, build_i (new_cnd _ _ _), mk_func, build_i (new_cnd _ _ _), mk_func, build_i (new_cnd _ _ _), mk_func, build_i (new_cnd _ _ _)]
  refine lit_els (c := Cnd.cells) (n := 6) Cnd.val (conds g b4 b5 b8) Ty.Cnd_row hi hz hsz (by decide) Cnd.len (fun _ => rfl) rfl (by decide) (by decide) rfl fun v w6 x6 ho6 _ => ?_
  have z6 := x6.size
  have hl6 : (conds g b4 b5 b8).length = 6 := rfl
  have main : Ret Tryz.prog 83 #[v] w6 fun r w' => ((∃ k, ∃ hk : k < (conds g b4 b5 b8).length, applyB C I p k = false ∧ (∀ j, j < k → applyB C I p j = true) ∧ r = .int .i64 (conds g b4 b5 b8)[k].e) ∨
      ((∀ j, j < (conds g b4 b5 b8).length → applyB C I p j = true) ∧ r = .int .i64 0 ∧ (Mod (· = b8) w6 w' ∧ ∃ u : SChart, At w' b8 (.cells u.cells.toArray 26 (0, 0)) ∧ (5 ≤ (conds g b4 b5 b8).length → DLive w0 w6.heap.size w' u (nextC C I.void))))) ∧ Mod (· = b8) w6 w' := by
    refine first_ret (L := conds g b4 b5 b8) (b := applyB C I p) (· = b8) (fun k W => Mod (· = b8) w6 W ∧ ∃ u : SChart, At W b8 (.cells u.cells.toArray 26 (0, 0)) ∧ (5 ≤ k → DLive w0 w6.heap.size W u (nextC C I.void))) w6
      ⟨Mod.refl _ _, SChart.zero, hat5.ext x6, fun h => by omega⟩ (fun j h => by omega) (fun k W W' ⟨m, u, hu, hd⟩ x => ⟨m.trans (Mod.of_ext x), u, hu.ext x, fun h => (hd h).mod (Mod.of_ext x)⟩)
      (fun k W hI => Sl.of_owns (Own.mod ho6 hI.1 fun j hj e => by have := (Own.block ho6 hj).1; omega)) conds_go fun k W hk hI hno => ?_
    obtain ⟨mW, u, hu, hd⟩ := hI
    have x0W : Ext w W := ((Mod.of_ext (x05.trans x6) : Mod (w.heap.size ≤ ·) w w6).trans (mW.mono fun k _ h => by omega)).new
    have zW := mW.size
    have q0 := x00.size
    have hT' := hT.ext (x00.trans x0W)
    have hgW := (h1.ext x6).mod mW (by omega)
    have h4W := (h2.ext x6).mod mW (by omega)
    have h5W := (h3.ext x6).mod mW (by omega)
    have ext_out : ∀ {f : FuncId} {args : Array Value} {b : Bool}, Ret Tryz.prog f args W (fun r w' => r = .bool b ∧ Ext W w') → (b = true → k + 1 ≤ 4 ∨ 5 ≤ k) → Ret Tryz.prog f args W fun r W' => r = .bool b ∧ Mod (· = b8) W W' ∧ (b = true → Mod (· = b8) w6 W' ∧ ∃ u : SChart, At W' b8 (.cells u.cells.toArray 26 (0, 0)) ∧ (5 ≤ k + 1 → DLive w0 w6.heap.size W' u (nextC C I.void))) :=
      fun hr hk => hr.mono fun r W' h => ⟨h.1, Mod.of_ext h.2, fun hb => ⟨mW.trans (Mod.of_ext h.2), u, hu.ext h.2, fun h5 => (hd (by have := hk hb; omega)).mod (Mod.of_ext h.2)⟩⟩
    have hg0 : 0 < k → GoodC C := fun h => by
      have := hno 0 h
      unfold applyB at this
      rw [if_pos rfl, Bool.and_eq_true] at this
      exact valid_iff.1 this.1
    match k, hk with
    | 0, _ => exact ext_out (ap1_ret W (hc.ext x0W) hok (has_of_at hgW) h5W) fun _ => by omega
    | 1, _ =>
      have := good_ver (hg0 (by omega))
      exact ext_out (ap2_ret W (hc.ext x0W) (hs.ext x0W) (by constructor <;> omega) (has_of_at hgW) (has_of_at h4W)) fun _ => by omega
    | 2, _ => exact ext_out (ap3_ret W (hc.ext x0W) hok hT' (hs.ext x0W) (has_of_at hgW) hgW.lt (has_of_at h4W) h4W.lt) fun _ => by omega
    | 3, _ => exact ext_out (ap4_ret W (hc.ext x0W) (hs.ext x0W) (has_of_at hgW) (has_of_at h4W)) fun _ => by omega
    | 4, _ =>
      have hG := hg0 (by omega)
      have hV : VoidsP C I.void := voids_iff.1 (by have := hno 3 (by omega); exact this)
      exact (ap5_ret (N := w6.heap.size) w0 W (x00.trans x0W) (hc.ext x0W) (hP.ext x0W) hok (good_size hG) (good_pos hG) (good_ver hG).2 hT (hs.ext x0W) hgW h4W hu (by omega) zW (by omega) hV).mono fun r W' h => ⟨h.1, h.2.1, fun _ => ⟨mW.trans h.2.1, h.2.2.imp fun u' hh => ⟨hh.1, fun _ => hh.2⟩⟩⟩
    | 5, _ => exact ext_out (ap6_ret W (hs.ext x0W) hIok hn hT' (has_of_at h4W) h4W.lt h5W) fun _ => by omega
    | k + 6, hk => exact absurd hk (by omega)
  refine callF_ret main ?_
  rintro _ w7 ⟨hq, m7⟩
  have h67 := (h4.ext x6).mod m7 (by omega)
  have x06 := x05.trans x6
  have q06 := x06.size
  have q00 := x00.size
  have mw7 : Mod (w.heap.size ≤ ·) w w7 := (Mod.of_ext x06).trans (m7.mono fun k _ h => by omega)
  rcases hq with ⟨k, hk, hf, hno, rfl⟩ | ⟨hall, rfl, _, u, hu, hd⟩
  · rw [conds_e, bin_neq]
    have hv := applyV_bad (by omega) hno hf
    refine Br_i (fun _ => ?_) fun hb => absurd hb (by simp [applyE_ne])
    rw [build_i new_nochart15]
    refine SChart.set (r := SChart.zero) h67 fun w8 m8 h8 _ => ?_
    exact res_i (rv_cell (chart_var h8) (rv_tmp (rv_nil _))) (hR _ _ ⟨⟨SChart.zero, by rw [hv]; rfl, by rw [hv]; exact fun W' _ => nochart_is W'⟩, (mw7.trans (m8.mono fun k _ h => by omega)).new⟩)
  · rw [bin_neq]
    have hv := applyV_ok (C := C) (I := I) (p := p) hall
    refine Br_i (fun hb => absurd hb (by simp)) fun _ => ?_
    rw [SChart.g_all (has_of_at hu)]
    refine SChart.set (r := SChart.zero) h67 fun w8 m8 h8 _ => ?_
    refine res_i (rv_cell (chart_var h8) (rv_tmp (rv_nil _))) (hR _ _ ⟨⟨u, by rw [hv]; rfl, by rw [hv]; exact ((hd (by rw [hl6]; decide)).mod (m8.mono fun k _ h => by omega)).mono (by omega)⟩, (mw7.trans (m8.mono fun k _ h => by omega)).new⟩)
namespace Edi
noncomputable def checkV (C : Cht) (I : Iss) (p : Int) : Bool × Int := if (applyV C I p).2 = 1 then (false, 1) else if (applyV C I p).2 = 0 then (true, 0) else (false, 0)
end Edi
open Cha in
theorem ediCheck_ret {c : SChart} {C : Cht} {s : SIssue} {I : Iss} {p : Int} (w : World) (hc : ChartIs w c C) (hok : ChartOk C) (hs : IssueIs w s I) (hIok : IssueOk I) (hn : I.void.length ≤ 60) (hT : Tab w) : Ret Tryz.prog 34 #[.agg c.cells.toArray, .agg s.cells.toArray, .int .i64 p] w fun r w' => r = .tuple #[.bool (Edi.checkV C I p).1, .int .i64 (Edi.checkV C I p).2] ∧ Ext w w' := by
  refine ret_of (fun _ _ => sh_edition_Check_ok _ _ _) fun R hR => ?_
  unfold sh_edition_Check
  refine box_i fun g w1 x1 hat1 hg1 _ => ?_
  refine box_i fun b4 w2 x2 hat2 hg2 _ => ?_
  have hat1 : At w1 g (.cells c.cells.toArray 26 (0, 0)) := hat1
  have hat2 : At w2 b4 (.cells s.cells.toArray 55 (0, 0)) := hat2
  rw [SChart.g_all (has_of_at (hat1.ext x2)), SIssue.g_all (has_of_at hat2)]
  have x02 := x1.trans x2
  refine callF_ret (ediApply_ret w2 w2 (Ext.refl _) (hc.ext x02) (hc.ext x02).pts hok (hs.ext x02) hIok hn (hT.ext x02)) ?_
  rintro _ w3 ⟨⟨u, rfl, hu⟩, x3⟩
  rw [ext2_0, ext2_1]
  refine alloc_i Ty.SChart_zero fun b8 w4 x4 hat4 hb4 _ => ?_
  have hat4 : At w4 b8 (.cells SChart.zero.cells.toArray 26 (0, 0)) := hat4
  refine SChart.set (r := SChart.zero) hat4 fun w5 m5 h5 _ => ?_
  have x05 : Ext w w5 := (x02.trans x3).trans (ext_step15 x4 m5 (by omega))
  rw [bin_eql]
  refine Br_i (fun hb => ?_) fun hb => ?_
  · have h1 := dec_t hb
    exact hR _ _ ⟨by unfold checkV; rw [if_pos h1, h1], x05⟩
  · have h1 := dec_f hb
    rw [bin_eql]
    refine Br_i (fun hb => ?_) fun hb => ?_
    · have h2 := dec_t hb
      exact hR _ _ ⟨by unfold checkV; rw [if_neg h1, if_pos h2], x05⟩
    · have h2 := dec_f hb
      exact hR _ _ ⟨by unfold checkV; rw [if_neg h1, if_neg h2], x05⟩
end Go.Proofs.YtnbcdaonkdffkaaGreatDoor
namespace Go.Proofs.YtnbcdaonkdffkaaGreatDoor
set_option maxRecDepth 100000
set_option maxHeartbeats 16000000
open Sh Go.RowKit Edi Cha
theorem refVoids_ret {s : SChart} {C : Cht} {v : Value} {l : List Int} (w : World) (hc : ChartIs w s C) (hv : IntsIs w v l) : Ret Tryz.prog 40 #[.agg s.cells.toArray, v] w fun r w' => r = .bool (Edi.voids C l) ∧ Ext w w' := by
  refine ret_of (fun _ _ => sh_landfallref29_Voids_ok _ _) fun R hR => ?_
  unfold sh_landfallref29_Voids
  refine box_i fun g w1 x1 hat1 hg1 _ => ?_
  have hat1 : At w1 g (.cells s.cells.toArray 26 (0, 0)) := hat1
  have hle := Sl.le hv
  refine loop1 (fun x W => ∃ k : Nat, k ≤ l.length ∧ x = .int .i64 k ∧ Ext w1 W ∧ ∀ j, j < k → GoodAt C l j) (fun x _ => l.length - (intOf x).toNat) ⟨0, by omega, rfl, Ext.refl _, fun j hj => by omega⟩ ?_
  rintro h _ W hx ⟨k, hk, rfl, xW, hgood⟩ K hK
  have x0W := x1.trans xW
  rw [(hv.ext x0W).len, hx, bin_lss]
  refine Br_i (fun hb => ?_) fun hb => ?_
  · have hlt : k < l.length := by have := dec_t hb; omega
    obtain ⟨a1, i1, g1⟩ := hv.at_ hlt
    have no : ∀ {V : World}, Ext w1 V → ¬ GoodAt C l k → R (.returned (.bool false)) V := fun x hn => hR _ _ ⟨by rw [voids_f fun hV => hn (hV k hlt)], x1.trans x⟩
    have hg : ∀ V, Ext w1 V → Has V g 0 s.cells := fun V x => has_of_at (hat1.ext x)
    refine join0 (fun V => Ext w1 V ∧ GoodAt C l k) ?_ fun K5 hK5 => ?_
    · rintro _ V ⟨xV, hgk⟩
      rw [bin_add, i64_wrap (by omega) (by omega)]
      refine hK _ _ ⟨k + 1, by omega, by simp, xV, fun j hj => ?_⟩ (by simp [intOf]; omega)
      by_cases hjk : j < k
      · exact hgood j hjk
      · have : j = k := by omega
        subst this; exact hgk
    · refine join0 (fun V => Ext w1 V ∧ prev l k < l[k] ∧ l[k] < C.cells.length) ?_ fun K6 hK6 => ?_
      · rintro _ V ⟨xV, hp, hc2⟩
        have h0 := at_ge hlt hgood hp
        obtain ⟨m, hm⟩ : ∃ m : Nat, (m : Int) = l[k] := ⟨l[k].toNat, by omega⟩
        have hml : m < C.cells.length := by omega
        obtain ⟨pb, po, hh, _, hix⟩ := SCell.row_at hc.cells hml
        have hva : voidAt C l[k] = C.cells[m].void := by
          rw [voidAt_of h0 hc2]
          congr 2
          omega
        refine draw_ext fun w4 x4 => ?_
        have x14 := xV.trans x4
        refine det_read _ (fun V x K => Ty.SChart_f6) ?_
        refine det_read s.cs.val (fun V x K => load_cell (fun w => show (isAgg 22).run Tryz.prog w = .ok false w by kernel_rfl) (has_at (hg V (x14.trans x)) (d := 6) rfl rfl)) ?_
        refine det_read _ (fun V x K => i1 V K _) ?_
        refine det_read (.int .i64 l[k]) (fun V x K => g1 V (x1.trans (x14.trans x)) K _) ?_
        intro w5 x5 _
        have x15 := x14.trans x5
        rw [← hm, hix, SCell.g_void (hh _ (x1.trans x15))]
        refine Br_i (fun hb => no x15 fun hn => ?_) fun hb => hK5 _ ⟨x15, fun _ => ⟨hp, hc2, by rw [hva]; exact hb⟩⟩
        have := (hn hlt).2.2
        rw [hva, hb] at this; cases this
      · refine join1 (fun x V => ∃ t, x = .bool t ∧ Ext w1 V ∧ (t = true → ¬ GoodAt C l k) ∧ (t = false → prev l k < l[k] ∧ l[k] < C.cells.length)) ?_ fun K7 hK7 => ?_
        · rintro _ _ V hx2 ⟨t, rfl, xV, ht, hf⟩
          rw [hx2]
          exact Br_i (fun hb => no xV (ht hb)) fun hb => hK6 _ ⟨xV, hf hb⟩
        refine draw_ext fun w4 x4 => ?_
        have x14 := xW.trans x4
        refine det_read _ (fun V x K => i1 V K _) ?_
        refine det_read (.int .i64 l[k]) (fun V x K => g1 V (x1.trans (x14.trans x)) K _) ?_
        refine det_read _ (fun V x K => bin_lss) ?_
        refine Gd_i (fun hb => ?_) fun hb => ?_
        · have c1 : ¬ l[k] < 0 := by simpa using hb
          refine det_read _ (fun V x K => i1 V K _) ?_
          refine det_read (.int .i64 l[k]) (fun V x K => g1 V (x1.trans (x14.trans x)) K _) ?_
          refine det_read _ (fun V x K => Ty.SChart_f6) ?_
          refine det_read s.cs.val (fun V x K => load_cell (fun w => show (isAgg 22).run Tryz.prog w = .ok false w by kernel_rfl) (has_at (hg V (x14.trans x)) (d := 6) rfl rfl)) ?_
          refine det_read (.int .i64 C.cells.length) (fun V x K => SCell.row_len (Sl.ext hc.cells (x1.trans (x14.trans x)))) ?_
          refine det_read _ (fun V x K => bin_geq) ?_
          refine Gd_i (fun hb2 => ?_) fun hb2 => ?_
          · have c2 : l[k] < C.cells.length := by have : ¬ (C.cells.length : Int) ≤ l[k] := by simpa using hb2
                                                  omega
            refine det_read _ (fun V x K => bin_gtr) ?_
            refine Gd_i (fun hb3 => ?_) fun hb3 => ?_
            · have hk0 : 0 < k := by have : (0 : Int) < k := by simpa using hb3
                                     omega
              have hk1 : k - 1 < l.length := by omega
              obtain ⟨a2, i2, g2⟩ := hv.at_ hk1
              refine det_read _ (fun V x K => i1 V K _) ?_
              refine det_read (.int .i64 l[k]) (fun V x K => g1 V (x1.trans (x14.trans x)) K _) ?_
              refine det_read (.int .i64 ((k - 1 : Nat) : Int)) (fun V x K => by rw [bin_sub, i64_wrap (by omega) (by omega), show (k : Int) - 1 = ((k - 1 : Nat) : Int) by omega]) ?_
              refine det_read _ (fun V x K => i2 V K _) ?_
              refine det_read (.int .i64 l[k - 1]) (fun V x K => g2 V (x1.trans (x14.trans x)) K _) ?_
              intro w5 x5 _
              rw [bin_leq]
              have hpv : prev l k = l[k - 1] := by unfold prev; rw [if_neg (by omega), List.getElem?_eq_getElem hk1]; rfl
              refine hK7 _ _ ⟨_, rfl, x14.trans x5, fun ht hn => ?_, fun hf => ?_⟩
              · have := dec_t ht
                have := (hn hlt).1
                omega
              · have := dec_f hf
                exact ⟨by omega, c2⟩
            · have hk0 : k = 0 := by have : ¬ (0 : Int) < k := by simpa using hb3
                                     omega
              intro w5 x5 _
              refine hK7 _ _ ⟨false, rfl, x14.trans x5, fun ht => (by cases ht), fun _ => ⟨?_, c2⟩⟩
              unfold prev
              rw [if_pos hk0]
              omega
          · intro w5 x5 _
            refine hK7 _ _ ⟨true, rfl, x14.trans x5, fun _ hn => ?_, fun ht => by cases ht⟩
            have := (hn hlt).2.1
            have h9 : (C.cells.length : Int) ≤ l[k] := by simpa using hb2
            omega
        · intro w5 x5 _
          refine hK7 _ _ ⟨true, rfl, x14.trans x5, fun _ hn => ?_, fun ht => by cases ht⟩
          have h0 := at_ge hlt hgood (hn hlt).1
          have h9 : l[k] < 0 := by simpa using hb
          omega
  · have hke : k = l.length := by have := dec_f hb; omega
    subst hke
    exact hR _ _ ⟨by rw [voids_iff.2 fun j hj => hgood j hj], x0W⟩
theorem refNext_ret {s : SChart} {C : Cht} {v : Value} {l : List Int} (w0 w : World) (x00 : Ext w0 w) (hc0 : ChartIs w0 s C) (hS : SizeP C) (hver : I64 (C.ver + 1)) (hpos : 0 < C.cells.length) (hv : IntsIs w v l) (hV : ∀ k (h : k < l.length), 0 ≤ l[k] ∧ l[k] < C.cells.length) :
    Ret Tryz.prog 39 #[.agg s.cells.toArray, v] w fun r w' => (∃ t : SChart, r = .agg t.cells.toArray ∧ DLive w0 w.heap.size w' t (nextC C l)) ∧ Ext w w' := by
  refine ret_of (fun _ _ => sh_landfallref29_Next_ok _ _) fun R hR => ?_
  unfold sh_landfallref29_Next
  have hc := hc0.ext x00
  obtain ⟨ic, hic, hzc, hsc, hbc⟩ := Ty.info_parts Ty.SCell_info
  obtain ⟨hcl, hbl, hll, hpl⟩ := id hS
  refine box_i fun g w1 x1 hat1 hg1 _ => ?_
  have hat1 : At w1 g (.cells s.cells.toArray 26 (0, 0)) := hat1
  refine alloc_i Ty.SChart_zero fun b4 w2 x2 hat4 hb4 _ => ?_
  have hat4 : At w2 b4 (.cells SChart.zero.cells.toArray 26 (0, 0)) := hat4
  have z1 := x1.size
  have z2 := x2.size
  have l1 := hat1.lt
  have l4 := hat4.lt
  have h2 := hat1.ext x2
  have gb : g ≠ b4 := by omega
  have x02 := x1.trans x2
  rw [SChart.g_ver (has_of_at h2), hc.ver, bin_add, i64_wrap hver.1 hver.2]
  refine SChart.s_ver (x := C.ver + 1) h2 fun w3 m3 h3 s3 => ?_
  have x03 : Ext w w3 := ext_step15 x02 m3 (by omega)
  have b3 := hat4.mod m3 gb.symm
  rw [SChart.g_cs (has_of_at h3)]
  refine SCell.row_apps (SCell.owns_nil w3.heap.size w3) (Sl.ext hc.cells x03) (by simp; omega) (Nat.le_refl _) fun vc w4 hoc m4 => ?_
  rw [List.nil_append] at hoc
  have x34 : Ext w3 w4 := m4.ext fun k _ h => by cases h
  have z3 := x03.size
  have z4 := x34.size
  have hoc := Own.mono (base' := w.heap.size) hoc z3
  obtain ⟨gc, capc, hdc, hgc1, hgc2⟩ := own_open hoc hpos
  have h4 := h3.ext x34
  have b4' := b3.ext x34
  have x04 := x03.trans x34
  rw [hdc] at hoc
  rw [hdc]
  refine loop1 (fun x V => ∃ k : Nat, k ≤ l.length ∧ x = .int .i64 k ∧ Ext w V ∧ At V g (.cells ({ s with ver := C.ver + 1 } : SChart).cells.toArray 26 (0, 0)) ∧ At V b4 (.cells SChart.zero.cells.toArray 26 (0, 0)) ∧
      SCell.Owns w.heap.size V (.slice (some ⟨gc, 0, none⟩) C.cells.length capc) (voided C.cells (l.take k))) (fun x _ => l.length - (intOf x).toNat)
    ⟨0, by omega, rfl, x04, h4, b4', hoc⟩ ?_
  rintro h _ V hx ⟨k, hk, rfl, xV, hV1, bV, hocV⟩ K2 hK2
  have hle := Sl.le hv
  rw [(hv.ext xV).len, hx, bin_lss]
  have hcs : (voided C.cells (l.take k)).length = C.cells.length := voided_len _ _
  refine Br_i (fun hb => ?_) fun hb => ?_
  · have hlt : k < l.length := by have := dec_t hb; omega
    obtain ⟨a1, i1, g1⟩ := hv.at_ hlt
    obtain ⟨r1, r2⟩ := hV k hlt
    obtain ⟨m, hm⟩ : ∃ m : Nat, (m : Int) = l[k] := ⟨l[k].toNat, by omega⟩
    have hml : m < (voided C.cells (l.take k)).length := by omega
    rw [i1, g1 V xV, ← hm, own_idx Ty.SCell_row15 hic hsc (by omega), Nat.zero_add, Ty.SCell_f2]
    refine own_cell (j := 3) (a' := { (voided C.cells (l.take k))[m] with void := true }) SCell.len hocV hml (by decide) rfl Ty.bool_size rfl fun V2 m2 hoc2 => ?_
    rw [bin_add, i64_wrap (by omega) (by omega)]
    have hgcat : ∃ cur, At V gc (.cells cur 78 (0, 0)) := by
      obtain ⟨_, h2⟩ := hocV
      rcases h2 with ⟨h, _⟩ | ⟨g', cap', cur, hv, _, hg, _⟩
      · cases h
      · injection hv with hv1; injection hv1 with hv1; injection hv1 with hv1
        subst hv1
        exact ⟨cur, hg⟩
    obtain ⟨cur, hgcat⟩ := hgcat
    have gcg : g ≠ gc := At.inj hV1 hgcat (by decide)
    have gcb : b4 ≠ gc := At.inj bV hgcat (by decide)
    refine hK2 _ _ ⟨k + 1, by omega, by simp, ((Mod.of_ext xV : Mod (w.heap.size ≤ ·) w V).trans (m2.mono fun k _ h => by omega)).new, hV1.mod m2 gcg, bV.mod m2 gcb, ?_⟩ (by simp [intOf]; omega)
    rw [voided_take hlt, setVoid_at hm hml]
    exact hoc2
  · have hke : k = l.length := by have := dec_f hb; omega
    subst hke
    rw [List.take_length] at hocV
    obtain ⟨dc, hdv⟩ := Hdr.of_sl (Sl.of_owns hocV)
    have hocV' := hocV
    rw [hdv] at hocV'
    rw [hdv]
    refine SChart.s_cs (x := dc) hV1 fun V2 m2 h2 s2 => ?_
    let t : SChart := { s with ver := C.ver + 1, cs := dc }
    have h2 : At V2 g (.cells t.cells.toArray 26 (0, 0)) := h2
    have hoc2 := Own.mod hocV' m2 (Own.off_at hocV' hV1 (by decide))
    have b2 := bV.mod m2 gb.symm
    rw [SChart.g_all (has_of_at h2)]
    refine SChart.set (r := SChart.zero) b2 fun V3 m3 hat3 s3 => ?_
    have hoc3 := Own.mod hoc2 m3 (Own.off_at hoc2 b2 (by decide))
    have xV3 : Ext w V3 := (((Mod.of_ext xV : Mod (w.heap.size ≤ ·) w V).trans (m2.mono fun k _ h => by omega)).trans (m3.mono fun k _ h => by omega)).new
    refine res_i (rv_cell (loadVar_agg Ty.SChart_agg Ty.SChart_size (xs := t.cells) rfl (has_of_at hat3)) (rv_nil _)) (hR _ _ ⟨⟨t, rfl, ?_⟩, xV3⟩)
    intro W' mW'
    have xW' : Ext w0 W' := ((Mod.of_ext (x00.trans xV3) : Mod (w0.heap.size ≤ ·) w0 V3).trans (mW'.mono fun k hk h => h.1)).new
    refine ⟨rfl, hc.x, hc.y, hc.w, hc.h, hc.size, ?_, Sl.ext hc0.beacons xW', hc0.lines.ext xW'⟩
    exact Sl.of_owns (Own.mod hoc3 mW' fun k hk h => by have := Own.block hoc3 hk; omega)
end Go.Proofs.YtnbcdaonkdffkaaGreatDoor
namespace Go.Proofs.YtnbcdaonkdffkaaGreatDoor
set_option maxRecDepth 100000
set_option maxHeartbeats 16000000
open Sh Go.RowKit Edi Cha
theorem half_lo (d : BitVec 64) : IntKind.i64.wrap (IntKind.u64.wrap (BitVec.ofInt IntKind.u64.bits (d.toNat : Int) &&& BitVec.ofInt IntKind.u64.bits 4294967295).toNat) = Edi.lo d := by
  have e : (BitVec.ofInt IntKind.u64.bits (d.toNat : Int) &&& BitVec.ofInt IntKind.u64.bits 4294967295).toNat = d.toNat % 4294967296 := by
    have e1 : BitVec.ofInt IntKind.u64.bits (d.toNat : Int) = d := by
      apply BitVec.eq_of_toNat_eq
      have := d.isLt
      simp only [IntKind.bits, BitVec.toNat_ofInt]; omega
    have e2 : BitVec.ofInt IntKind.u64.bits 4294967295 = 4294967295#64 := rfl
    rw [e1, e2]
    show (d &&& (4294967295#64 : BitVec 64)).toNat = _
    rw [BitVec.toNat_and]
    exact Nat.and_two_pow_sub_one_eq_mod d.toNat 32
  have h := lo_rng d
  have hu : ∀ x : Int, 0 ≤ x → x < 4294967296 → IntKind.u64.wrap x = x := fun x h1 h2 => by
    have : IntKind.u64.wrap x = x % 18446744073709551616 := by simp [IntKind.wrap, IntKind.signed, IntKind.bits]
    omega
  rw [e, show ((d.toNat % 4294967296 : Nat) : Int) = Edi.lo d from rfl, hu _ h.1 h.2, i64_wrap (by omega) (by omega)]
theorem refIssInts_ret {s : SIssue} {I : Iss} (w : World) (h : IssueIs w s I) (hn : I.void.length < 9000) : Ret Tryz.prog 82 #[.agg s.cells.toArray] w fun r w' => IntsIs w' r (issInts I) ∧ Ext w w' := by
  refine ret_of (fun _ _ => sh_landfallref29_Ints_ok _) fun R hR => ?_
  unfold sh_landfallref29_Ints
  refine box_i fun g w1 x1 hat1 hg1 _ => ?_
  have hat1 : At w1 g (.cells s.cells.toArray 55 (0, 0)) := hat1
  have hh := has_of_at hat1
  rw [SIssue.g_ver hh, h.ver, SIssue.g_before hh, h.before, u64v, bin_shr (by omega), conv_int Ty.u64 Ty.int, half_hi]
  rw [SIssue.g_before hh, h.before, u64v, bin_and, conv_int Ty.u64 Ty.int, half_lo, SIssue.g_after hh, h.after, u64v, bin_shr (by omega), conv_int Ty.u64 Ty.int, half_hi, SIssue.g_after hh, h.after, u64v, bin_and, conv_int Ty.u64 Ty.int, half_lo]
  refine lit_ints [I.ver, hi I.before, lo I.before, hi I.after, lo I.after] rfl (by decide) (by decide) rfl fun v w2 x2 ho2 _ => ?_
  have x02 := x1.trans x2
  have z2 := x02.size
  refine loop2 (fun x y W => ∃ k : Nat, k ≤ I.void.length ∧ W.ownsRow w.heap.size 3 1 x ([I.ver, hi I.before, lo I.before, hi I.after, lo I.after] ++ I.void.take k).length (iv ([I.ver, hi I.before, lo I.before, hi I.after, lo I.after] ++ I.void.take k)) ∧ y = .int .i64 k ∧ Ext w W ∧ At W g (.cells s.cells.toArray 55 (0, 0))) (fun _ y _ => I.void.length - (intOf y).toNat)
    ⟨0, by omega, Own.mono ho2 x1.size, rfl, x02, hat1.ext x2⟩ ?_
  rintro hh2 u _ W hx hy ⟨k, hk, ho, rfl, xW, hW⟩ K hK
  have hvW := h.void.ext xW
  rw [SIssue.g_void (has_of_at hW), hvW.len, hy, bin_lss]
  refine Br_i (fun hb => ?_) fun hb => ?_
  · have hlt : k < I.void.length := by have := dec_t hb; omega
    obtain ⟨a1, i1, g1⟩ := h.void.at_ hlt
    rw [SIssue.g_void (has_of_at hW), i1, g1 W xW, hx]
    refine lit_ints [I.void[k]] rfl (by decide) (by decide) rfl fun v3 w3 x3 ho3 _ => ?_
    have z3 := x3.size
    have zW := xW.size
    refine app_ints (Own.ext ho x3) (Sl.of_owns ho3) (by simp; omega) (by omega) fun v4 w4 ho4 m4 => ?_
    rw [bin_add, i64_wrap (by omega) (by omega)]
    have hoff : ¬ u.ownBlock = some g := fun e => Own.off_at ho hW (by decide) _ e rfl
    refine hK _ _ _ ⟨k + 1, by omega, ?_, by simp, ?_, ?_⟩ (by simp [intOf]; omega)
    · rw [List.take_succ_eq_append_getElem hlt, ← List.append_assoc]; exact ho4
    · exact ((Mod.of_ext (xW.trans x3) : Mod (w.heap.size ≤ ·) w w3).trans (m4.mono fun j _ hj => (Own.block ho hj).1)).new
    · exact (hW.ext x3).mod m4 hoff
  · have hke : k = I.void.length := by have := dec_f hb; omega
    subst hke
    rw [List.take_length] at ho
    rw [hx]
    exact hR _ _ ⟨Sl.of_owns ho, xW⟩
theorem refIssSame_ret {s t : SIssue} {I : Iss} (w : World) (hs : IssueIs w s I) (ht : IssueIs w t I) : Ret Tryz.prog 32 #[.agg s.cells.toArray, .agg t.cells.toArray] w fun r w' => r = .bool true ∧ Ext w w' := by
  refine ret_of (fun _ _ => sh_landfallref29_Same_ok _ _) fun R hR => ?_
  unfold sh_landfallref29_Same
  refine box_i fun g w1 x1 hat1 hg1 _ => ?_
  have hat1 : At w1 g (.cells s.cells.toArray 55 (0, 0)) := hat1
  refine box_i fun b w2 x2 hat2 hg2 _ => ?_
  have hat2 : At w2 b (.cells t.cells.toArray 55 (0, 0)) := hat2
  have x02 := x1.trans x2
  have h1 := hat1.ext x2
  rw [SIssue.g_void (has_of_at h1), SIssue.g_void (has_of_at hat2)]
  refine callF_ret (sameInts_ret w2 (hs.void.ext x02) (ht.void.ext x02)) ?_
  rintro _ w3 ⟨rfl, x3⟩
  have g1 := has_of_at (h1.ext x3)
  have g2 := has_of_at (hat2.ext x3)
  rw [SIssue.g_ver g1, SIssue.g_ver g2, hs.ver, ht.ver, bin_eql]
  refine Gd_i (fun _ => ?_) fun hb => absurd hb (by simp)
  rw [SIssue.g_before g1, SIssue.g_before g2, hs.before, ht.before, eql_u64c]
  refine Gd_i (fun _ => ?_) fun hb => absurd hb (by simp)
  rw [SIssue.g_after g1, SIssue.g_after g2, hs.after, ht.after, eql_u64c]
  refine Gd_i (fun _ => ?_) fun hb => absurd hb (by simp)
  rw [SIssue.g_sig g1, SIssue.g_sig g2, hs.sig, ht.sig, SSig.eql]
  refine Gd_i (fun _ => ?_) fun hb => absurd hb (by simp)
  exact hR _ _ ⟨by simp, x02.trans x3⟩
theorem neq_u64c {w : World} {K : Value → World → Prop} {X : List PanicEntry → World → Prop} {t : TypeId} {ox oy : Operand} {d e : BitVec 64} : DoV Tryz.prog (binS .neq t ox oy (u64v d) (u64v e)) w K X = K (.bool (!decide (d = e))) w := by
  unfold u64v
  rw [bin_neq]
  congr 3
  rw [decide_eq_decide]
  exact ⟨fun h => BitVec.eq_of_toNat_eq (Int.ofNat.inj h), fun h => by rw [h]⟩
theorem apply_out {C : Cht} {I : Iss} {p e : Int} {wa w0 w : World} {b6 : Nat} {R : Ending → World → Prop} {X1 X2 : List PanicEntry → World → Prop} (hR : ∀ v w', ApplyQ wa C I p w0 v w' → R (.returned v) w') (hx : Ext w0 w) (h6 : At w b6 (.cells SChart.zero.cells.toArray 26 (0, 0))) (hb6 : w0.heap.size ≤ b6)
    (hv : Edi.applyV C I p = (Cha.noC, e)) :
    DoV Tryz.prog (Instr.build 26 #[]) w (fun a w1 => DoU Tryz.prog (Instr.storeAt 26 (.pointer (some ⟨b6, 0, none⟩)) a) w1 (fun _ w2 =>
      Res Tryz.prog [.cell (.pointer (some ⟨b6, 0, none⟩)) 26, .tmp (.int .i64 e)] w2 R) X2) X1 := by
  rw [build_i new_nochart15]
  refine SChart.set (r := SChart.zero) h6 fun w8 m8 h8 _ => ?_
  exact res_i (rv_cell (chart_var h8) (rv_tmp (rv_nil _))) (hR _ _ ⟨⟨SChart.zero, by rw [hv]; rfl, by rw [hv]; exact fun W' _ => nochart_is W'⟩, ((Mod.of_ext hx : Mod (w0.heap.size ≤ ·) w0 w).trans (m8.mono fun k _ h => by omega)).new⟩)
theorem refCheck29_ret {c : SChart} {C : Cht} {s : SIssue} {I : Iss} {p : Int} (w : World) (hA : ∀ w', Ext w w' → Ret Tryz.prog 37 #[.agg c.cells.toArray, .agg s.cells.toArray, .int .i64 p] w' (ApplyQ w' C I p w')) : Ret Tryz.prog 35 #[.agg c.cells.toArray, .agg s.cells.toArray, .int .i64 p] w fun r w' => r = .tuple #[.bool (Edi.checkV C I p).1, .int .i64 (Edi.checkV C I p).2] ∧ Ext w w' := by
  refine ret_of (fun _ _ => sh_landfallref29_Check_ok _ _ _) fun R hR => ?_
  unfold sh_landfallref29_Check
  refine box_i fun g w1 x1 hat1 hg1 _ => ?_
  refine box_i fun b4 w2 x2 hat2 hg2 _ => ?_
  have hat1 : At w1 g (.cells c.cells.toArray 26 (0, 0)) := hat1
  have hat2 : At w2 b4 (.cells s.cells.toArray 55 (0, 0)) := hat2
  rw [SChart.g_all (has_of_at (hat1.ext x2)), SIssue.g_all (has_of_at hat2)]
  have x02 := x1.trans x2
  refine callF_ret (hA w2 x02) ?_
  rintro _ w3 ⟨⟨u, rfl, hu⟩, x3⟩
  rw [ext2_0, ext2_1]
  refine alloc_i Ty.SChart_zero fun b8 w4 x4 hat4 hb4 _ => ?_
  have hat4 : At w4 b8 (.cells SChart.zero.cells.toArray 26 (0, 0)) := hat4
  refine SChart.set (r := SChart.zero) hat4 fun w5 m5 h5 _ => ?_
  have x05 : Ext w w5 := (x02.trans x3).trans (ext_step15 x4 m5 (by omega))
  rw [bin_eql]
  refine Br_i (fun hb => ?_) fun hb => ?_
  · have h1 := dec_t hb
    exact hR _ _ ⟨by unfold checkV; rw [if_pos h1, h1], x05⟩
  · have h1 := dec_f hb
    rw [bin_eql]
    refine hR _ _ ⟨?_, x05⟩
    unfold checkV
    rw [if_neg h1]
    by_cases h2 : (applyV C I p).2 = 0
    · rw [if_pos h2, h2]; rfl
    · rw [if_neg h2, decide_eq_false h2]
theorem refApply_ret {c : SChart} {C : Cht} {s : SIssue} {I : Iss} {p : Int} (w0 w : World) (x00 : Ext w0 w) (hc0 : ChartIs w0 c C) (hok : ChartOk C) (hs : IssueIs w s I) (hIok : IssueOk I) (hn : I.void.length ≤ 60) : Ret Tryz.prog 37 #[.agg c.cells.toArray, .agg s.cells.toArray, .int .i64 p] w (ApplyQ w0 C I p w) := by
  refine ret_of (fun _ _ => sh_landfallref29_Apply_ok _ _ _) fun R hR => ?_
  have hc := hc0.ext x00
  have z00 := x00.size
  unfold sh_landfallref29_Apply
  refine box_i fun g w1 x1 hat1 hg1 _ => ?_
  refine box_i fun b4 w2 x2 hat2 hg2 _ => ?_
  refine alloc_i Ty.SChart_zero fun b6 w3 x3 hat3 hb3 _ => ?_
  have hat1 : At w1 g (.cells c.cells.toArray 26 (0, 0)) := hat1
  have hat2 : At w2 b4 (.cells s.cells.toArray 55 (0, 0)) := hat2
  have hat3 : At w3 b6 (.cells SChart.zero.cells.toArray 26 (0, 0)) := hat3
  have z1 := x1.size
  have z2 := x2.size
  have z3 := x3.size
  have l1 := hat1.lt
  have l2 := hat2.lt
  have l3 := hat3.lt
  have x03 := (x1.trans x2).trans x3
  have h1 := hat1.ext (x2.trans x3)
  have h2 := hat2.ext x3
  have hgV : ∀ {V : World}, Ext w3 V → Has V g 0 c.cells := fun x => has_of_at (h1.ext x)
  have h4V : ∀ {V : World}, Ext w3 V → Has V b4 0 s.cells := fun x => has_of_at (h2.ext x)
  rw [SChart.g_all (has_of_at h1)]
  refine callF_ret (refChValid_ret w3 (hc.ext x03)) ?_
  rintro _ w4 ⟨rfl, x4⟩
  refine callF_ret (refMember_ret p w4) ?_
  rintro _ w5 ⟨rfl, x5⟩
  have x35 := x4.trans x5
  have bad : ∀ {V : World} {k : Nat} {X1 X2 : List PanicEntry → World → Prop}, Ext w3 V → k < 6 → (∀ j, j < k → applyB C I p j = true) → applyB C I p k = false → DoV Tryz.prog (Instr.build 26 #[]) V (fun a w1 => DoU Tryz.prog (Instr.storeAt 26 (.pointer (some ⟨b6, 0, none⟩)) a) w1 (fun _ w2 =>
      Res Tryz.prog [.cell (.pointer (some ⟨b6, 0, none⟩)) 26, .tmp (.int .i64 (applyE k))] w2 R) X2) X1 := fun x hk hno hf => apply_out hR (x03.trans x) (hat3.ext x) (by omega) (applyV_bad hk hno hf)
  refine join0 (fun V => Ext w3 V ∧ applyB C I p 0 = true) ?_ fun K7 hK7 => ?_
  · rintro _ V ⟨xV, a0⟩
    have hval : Cha.valid C = true := by
      unfold applyB at a0
      rw [if_pos rfl, Bool.and_eq_true] at a0
      exact a0.1
    have hG := valid_iff.1 hval
    obtain ⟨v1, v2⟩ := good_ver hG
    refine join0 (fun V => Ext w3 V ∧ applyB C I p 1 = true) ?_ fun K15 hK15 => ?_
    · rintro _ V ⟨xV, a1⟩
      refine draw_ext fun w6 x6 => ?_
      have x36 := xV.trans x6
      refine det_read _ (fun V x K => Ty.SIssue_f1) ?_
      refine det_read (u64v I.before) (fun V x K => by rw [← hs.before]; exact load_cell Ty.u64_agg (has_at (h4V (x36.trans x)) (d := 1) rfl rfl)) ?_
      refine det_read (.agg c.cells.toArray) (fun V x K => SChart.g_all (hgV (x36.trans x))) ?_
      refine det_ext_ret (u64v (Cha.digestV C).1) (fun V x => refDigest29_ret V (hc.ext (x03.trans (x36.trans x))) hok) ?_
      intro w7 x7 _
      have x37 := x36.trans x7
      rw [neq_u64c]
      refine Br_i (fun hb => bad x37 (k := 2) (by decide) (fun j hj => by match j, hj with | 0, _ => exact a0 | 1, _ => exact a1) (by simpa [applyB] using hb)) fun hb => ?_
      have a2 : applyB C I p 2 = true := by simpa [applyB] using hb
      rw [SChart.g_all (hgV x37), SIssue.g_void (h4V x37)]
      refine callF_ret (refVoids_ret w7 (hc.ext (x03.trans x37)) (hs.void.ext (x03.trans x37))) ?_
      rintro _ w8 ⟨rfl, x8⟩
      have x38 := x37.trans x8
      rw [un_not]
      refine Br_i (fun hb => bad x38 (k := 3) (by decide) (fun j hj => by match j, hj with | 0, _ => exact a0 | 1, _ => exact a1 | 2, _ => exact a2) (by simpa [applyB] using hb)) fun hb => ?_
      have a3 : applyB C I p 3 = true := by simpa [applyB] using hb
      have hV : VoidsP C I.void := voids_iff.1 a3
      rw [SChart.g_all (hgV x38), SIssue.g_void (h4V x38)]
      refine callF_ret (refNext_ret w0 w8 (x00.trans (x03.trans x38)) hc0 (good_size hG) (by constructor <;> omega) (good_pos hG) (hs.void.ext (x03.trans x38)) (voids_rng hV)) ?_
      rintro _ w9 ⟨⟨u, rfl, hu⟩, x9⟩
      refine alloc_i Ty.SChart_zero fun b11 w10 x10 hat10 hb11 _ => ?_
      refine SChart.set (r := SChart.zero) hat10 fun w11 m11 hat11 s11 => ?_
      have y11 : Ext w9 w11 := ext_step15 x10 m11 (by have := x10.size; omega)
      have x311 := (x38.trans x9).trans y11
      refine draw_ext fun w12 x12 => ?_
      have y12 := y11.trans x12
      have x312 := x311.trans x12
      refine det_read _ (fun V x K => Ty.SIssue_f2) ?_
      refine det_read (u64v I.after) (fun V x K => by rw [← hs.after]; exact load_cell Ty.u64_agg (has_at (h4V (x312.trans x)) (d := 2) rfl rfl)) ?_
      refine det_read (.agg u.cells.toArray) (fun V x K => SChart.g_all (has_of_at ((hat11.ext x12).ext x))) ?_
      refine det_ext_ret (u64v (Cha.digestV (nextC C I.void)).1) (fun V x => refDigest29_ret V (hu.mod (Mod.of_ext (y12.trans x))).is (next_ok hok v2)) ?_
      intro w13 x13 _
      have x313 := x312.trans x13
      rw [neq_u64c]
      refine Br_i (fun hb => bad x313 (k := 4) (by decide) (fun j hj => by match j, hj with | 0, _ => exact a0 | 1, _ => exact a1 | 2, _ => exact a2 | 3, _ => exact a3) (by simpa [applyB] using hb)) fun hb => ?_
      have a4 : applyB C I p 4 = true := by simpa [applyB] using hb
      refine drawRY fun w14 x14 _ => ?_
      have x314 := x313.trans x14
      have h41 : ∀ V, Ext w14 V → Has V b4 0 s.cells := fun V x => h4V (x314.trans x)
      refine det_ry _ (fun V x K => Ty.SIssue_f4) ?_
      refine det_ry (.agg s.sig.cells.toArray) (fun V x K => load_arr (n := 2) (xs := s.sig.cells) Ty.SSig_agg Ty.SSig_size rfl (fun j u hu => has_part (h41 V x) (d := 4) (n := 2) (xs := s.sig.cells) (by omega) rfl hu)) ?_
      refine det_ry (.agg s.cells.toArray) (fun V x K => SIssue.g_all (h41 V x)) ?_
      have hsm : SmallList (issInts I) := issInts_small hIok.ver hIok.void (by omega)
      refine thr_y (fun vs V => ∃ a b c d, vs = [a, b, c, d, .int .i64 (Sig.verV p I.sig (issInts I)).2, .bool (Sig.verV p I.sig (issInts I)).1]) ?_ ?_
      · refine nd_y (fun v V => IntsIs V v (issInts I)) (fun _ _ _ h x => h.ext x) (fun V x _ => callF_ret (refIssInts_ret V (hs.ext (x03.trans (x314.trans x))) (by omega)) fun v V2 hq => ⟨hq.2, hq.1⟩) fun v6 => ?_
        refine nd_y (fun v V => v = .tuple #[.bool (Sig.verV p I.sig (issInts I)).1, .int .i64 (Sig.verV p I.sig (issInts I)).2]) (fun _ _ _ h x => h) (fun V x h => by rw [hs.sig]; exact callF_ret (refVerify_ret ⟨hsm.1, by simp [issInts]; omega⟩ V h) fun v V2 hq => ⟨hq.2, hq.1⟩) fun v7 => ?_
        refine nd_y (fun v V => v = .tuple #[.bool (Sig.verV p I.sig (issInts I)).1, .int .i64 (Sig.verV p I.sig (issInts I)).2]) (fun _ _ _ h x => h) (fun V x h => ⟨Ext.refl _, h⟩) fun v8 => ?_
        refine nd_y (fun v V => v = .bool (Sig.verV p I.sig (issInts I)).1 ∧ v8 = .tuple #[.bool (Sig.verV p I.sig (issInts I)).1, .int .i64 (Sig.verV p I.sig (issInts I)).2]) (fun _ _ _ h x => h) (fun V x h => by subst h; rw [ext2_0]; exact ⟨Ext.refl _, rfl, rfl⟩) fun v9 => ?_
        refine nd_y (fun v V => v = .int .i64 (Sig.verV p I.sig (issInts I)).2 ∧ v9 = .bool (Sig.verV p I.sig (issInts I)).1) (fun _ _ _ h x => h) (fun V x h => by rw [h.2, ext2_1]; exact ⟨Ext.refl _, rfl, h.1⟩) fun v10 => ?_
        refine nd_y (fun v V => v = .bool (Sig.verV p I.sig (issInts I)).1 ∧ v10 = .int .i64 (Sig.verV p I.sig (issInts I)).2) (fun _ _ _ h x => h) (fun V x h => ⟨Ext.refl _, h.2, h.1⟩) fun v11 => ?_
        intro V x h
        exact ⟨_, _, _, _, by rw [h.1, h.2]⟩
      rintro hh V xV ⟨_, _, a, b, c', d, e1⟩
      simp only [List.cons.injEq, and_true] at e1
      rw [e1.2.2.2.2.1, e1.2.2.2.2.2]
      have x3V := x314.trans xV
      have y11V := ((y12.trans x13).trans x14).trans xV
      refine join0 (fun V => Ext w14 V ∧ applyB C I p 5 = true) ?_ fun K73 hK73 => ?_
      · rintro _ V ⟨xV, a5⟩
        have x3V := x314.trans xV
        have hb11 := ((((hat11.ext x12).ext x13).ext x14).ext xV)
        rw [SChart.g_all (has_of_at hb11)]
        refine SChart.set (r := SChart.zero) (hat3.ext x3V) fun V2 m2 h2 _ => ?_
        have hv := applyV_ok (C := C) (I := I) (p := p) fun j hj => by match j, hj with | 0, _ => exact a0 | 1, _ => exact a1 | 2, _ => exact a2 | 3, _ => exact a3 | 4, _ => exact a4 | 5, _ => exact a5
        have z8 := (x03.trans x38).size
        have z38 := x38.size
        refine res_i (rv_cell (chart_var h2) (rv_tmp (rv_nil _))) (hR _ _ ⟨⟨u, by rw [hv]; rfl, by rw [hv]; exact ((hu.mod (Mod.of_ext (((y12.trans x13).trans x14).trans xV))).mod (m2.mono fun k _ h => by omega)).mono (by omega)⟩, ?_⟩)
        exact ((Mod.of_ext (x03.trans x3V) : Mod (w.heap.size ≤ ·) w V).trans (m2.mono fun k _ h => by omega)).new
      · refine join1 (fun q V => Ext w14 V ∧ q = .bool (!(Sig.verV p I.sig (issInts I)).1)) ?_ fun K74 hK74 => ?_
        · rintro _ _ V hq ⟨xV, rfl⟩
          rw [hq]
          refine Br_i (fun hb => bad (x314.trans xV) (k := 5) (by decide) (fun j hj => by match j, hj with | 0, _ => exact a0 | 1, _ => exact a1 | 2, _ => exact a2 | 3, _ => exact a3 | 4, _ => exact a4) (by simpa [applyB] using hb)) fun hb => hK73 _ ⟨xV, by simpa [applyB] using hb⟩
        · rw [bin_neq]
          refine Gd_i (fun hb => ?_) fun hb => ?_
          · rw [un_not]
            exact hK74 _ _ ⟨xV, rfl⟩
          · refine hK74 _ _ ⟨xV, ?_⟩
            congr 1
            revert hb
            unfold Sig.verV
            split
            · intro hb; simp at hb
            · intro _; rfl
    · refine join1 (fun q V => Ext w3 V ∧ q = .bool (!applyB C I p 1)) ?_ fun K16 hK16 => ?_
      · rintro _ _ V hq ⟨xV, rfl⟩
        rw [hq]
        exact Br_i (fun hb => bad xV (k := 1) (by decide) (fun j hj => by match j, hj with | 0, _ => exact a0) (by simpa using hb)) fun hb => hK15 _ ⟨xV, by simpa using hb⟩
      · have e1 : applyB C I p 1 = (decide (I.ver = C.ver + 1) && decide (I.ver ≤ 1000000)) := rfl
        rw [SIssue.g_ver (h4V xV), hs.ver, SChart.g_ver (hgV xV), hc.ver, bin_add, i64_wrap (by omega) (by omega), bin_neq]
        refine Gd_i (fun hb => ?_) fun hb => ?_
        · rw [SIssue.g_ver (h4V xV), hs.ver, bin_gtr]
          refine hK16 _ _ ⟨xV, ?_⟩
          have h9 : I.ver = C.ver + 1 := by simpa using hb
          rw [e1, decide_eq_true h9, Bool.true_and]
          congr 1
          rw [Bool.eq_iff_iff]
          simp only [decide_eq_true_eq, Bool.not_eq_true', decide_eq_false_iff_not]
          omega
        · have h9 : ¬ I.ver = C.ver + 1 := by simpa using hb
          exact hK16 _ _ ⟨xV, by rw [e1, decide_eq_false h9]; rfl⟩
  · refine join1 (fun q V => Ext w3 V ∧ q = .bool (!applyB C I p 0)) ?_ fun K8 hK8 => ?_
    · rintro _ _ V hq ⟨xV, rfl⟩
      rw [hq]
      exact Br_i (fun hb => bad xV (k := 0) (by decide) (fun j hj => by omega) (by simpa using hb)) fun hb => hK7 _ ⟨xV, by simpa using hb⟩
    · have e0 : applyB C I p 0 = (Cha.valid C && Sig.member p) := rfl
      rw [un_not]
      refine Gd_i (fun hb => ?_) fun hb => ?_
      · have hb : Cha.valid C = true := by simpa using hb
        rw [un_not]
        exact hK8 _ _ ⟨x35, by rw [e0, hb, Bool.true_and]⟩
      · have hb : Cha.valid C = false := by simpa using hb
        exact hK8 _ _ ⟨x35, by rw [e0, hb, Bool.false_and]; rfl⟩
end Go.Proofs.YtnbcdaonkdffkaaGreatDoor
namespace Go.Proofs.YtnbcdaonkdffkaaGreatDoor
set_option maxRecDepth 100000
set_option maxHeartbeats 16000000
open Sh Go.RowKit Edi Cha
theorem refMake_ret {c : SChart} {C : Cht} {v : Value} {l : List Int} {s o : Int} (w0 w : World) (x00 : Ext w0 w) (hc0 : ChartIs w0 c C) (hok : ChartOk C) (hv : IntsIs w v l) (hl : ∀ n ∈ l, I64 n) (hn : l.length ≤ 60) : Ret Tryz.prog 31 #[.agg c.cells.toArray, v, .int .i64 s, .int .i64 o] w (MakeQ w0 C l s o w) := by
  have hc := hc0.ext x00
  have z00 := x00.size
  refine ret_of (fun _ _ => sh_landfallref29_Make_ok _ _ _ _) fun R hR => ?_
  unfold sh_landfallref29_Make
  refine box_i fun g w1 x1 hat1 hg1 _ => ?_
  refine alloc_i Ty.SIssue_zero fun b8 w2 x2 hat2 hb8 _ => ?_
  have hat2 : At w2 b8 (.cells SIssue.zero.cells.toArray 55 (0, 0)) := hat2
  refine alloc_i Ty.SChart_zero fun b9 w3 x3 hat3 hb9 _ => ?_
  have hat3 : At w3 b9 (.cells SChart.zero.cells.toArray 26 (0, 0)) := hat3
  have z1 := x1.size
  have z2 := x2.size
  have z3 := x3.size
  have l1 := hat1.lt
  have l2 := hat2.lt
  have l3 := hat3.lt
  have x03 := (x1.trans x2).trans x3
  have h1 := hat1.ext (x2.trans x3)
  have h8 := hat2.ext x3
  have b89 : b8 ≠ b9 := by omega
  rw [SChart.g_all (has_of_at h1)]
  refine callF_ret (refChValid_ret w3 (hc.ext x03)) ?_
  rintro _ w4 ⟨rfl, y4⟩
  refine callF_same (Secret_ret s w4) ?_
  refine callF_same (Secret_ret o w4) ?_
  refine join0 (fun W => Ext w3 W ∧ (Cha.valid C && (Sig.inQ 1 s && Sig.inQ 1 o)) = true) ?_ fun K4 hK4 => ?_
  · rintro _ W ⟨xW, hall⟩
    have hall' := hall
    rw [Bool.and_eq_true, Bool.and_eq_true] at hall'
    obtain ⟨hval, hs, ho⟩ := hall'
    have hG := valid_iff.1 hval
    obtain ⟨v1, v2⟩ := good_ver hG
    have x0W := x03.trans xW
    rw [SChart.g_all (has_of_at (h1.ext xW))]
    refine callF_ret (refVoids_ret W (hc.ext x0W) (hv.ext x0W)) ?_
    rintro _ W1 ⟨rfl, y1⟩
    rw [un_not]
    have xW1 := xW.trans y1
    refine Br_i (fun hb2 => ?_) fun hb2 => ?_
    · exact make_bad hR (x03.trans xW1) (h8.ext xW1) (hat3.ext xW1) (by omega) (by omega) b89 (by unfold makeV; rw [if_pos hall, if_neg fun h => by rw [h] at hb2; cases hb2])
    have hvo : voids C l = true := by simpa using hb2
    have hV := voids_iff.1 hvo
    rw [SChart.g_ver (has_of_at (h1.ext xW1)), hc.ver, bin_eql]
    refine Br_i (fun hb3 => ?_) fun hb3 => ?_
    · exact make_bad hR (x03.trans xW1) (h8.ext xW1) (hat3.ext xW1) (by omega) (by omega) b89 (by unfold makeV; rw [if_pos hall, if_pos hvo, if_pos (by have := dec_t hb3; omega)])
    have hver : C.ver < 1000000 := by have := dec_f hb3; omega
    have hnok := next_ok (l := l) hok v2
    clear hb2 hb3
    rw [SChart.g_all (has_of_at (h1.ext xW1))]
    have x0W1 := x03.trans xW1
    refine callF_ret (refNext_ret w0 W1 (x00.trans x0W1) hc0 (good_size hG) (by constructor <;> omega) (good_pos hG) (hv.ext x0W1) (voids_rng hV)) ?_
    rintro _ W2 ⟨⟨d, rfl, hdm⟩, y2⟩
    have hd := hdm.is
    refine alloc_i Ty.SChart_zero fun b11 W3 y3 hat11 hb11 _ => ?_
    have hat11 : At W3 b11 (.cells SChart.zero.cells.toArray 26 (0, 0)) := hat11
    have zW := xW1.size
    have q1 := y2.size
    have q2 := y3.size
    refine SChart.set (r := SChart.zero) hat11 fun W4 m4 hat11 s4 => ?_
    have y24 : Ext W2 W4 := ext_step15 y3 m4 (by omega)
    have x34 := (xW1.trans y2).trans y24
    have q4 := y24.size
    refine app_ints (l := []) (Own.nil W4 W4.heap.size _ 1) (hv.ext (x03.trans x34)) (by simp; omega) (Nat.le_refl _) fun v5 W5 ho5 m5 => ?_
    have y45 : Ext W4 W5 := m5.ext fun k _ h => by cases h
    obtain ⟨h, rfl⟩ := Hdr.of_sl (Sl.of_owns ho5)
    have ho5 : W5.ownsRow W4.heap.size 3 1 h.val l.length (iv l) := ho5
    refine draw_ext fun W6 y6 => ?_
    have x36 := (x34.trans y45).trans y6
    have x06 := x03.trans x36
    have y26 := (y24.trans y45).trans y6
    have hg : ∀ V, Ext W6 V → Has V g 0 c.cells := fun V x => has_of_at (h1.ext (x36.trans x))
    have hb : ∀ V, Ext W6 V → Has V b11 0 d.cells := fun V x => has_of_at (hat11.ext ((y45.trans y6).trans x))
    have hdv : d.ver = C.ver + 1 := (hd.ver).trans rfl
    have hd4 : ∀ V, Ext W6 V → ChartIs V d (nextC C l) := fun V x => (hdm.mod (Mod.of_ext (y26.trans x))).is
    have hc4 : ∀ V, Ext W6 V → ChartIs V c C := fun V x => hc.ext (x06.trans x)
    refine det_read _ (fun V x K => Ty.SChart_f0) ?_
    refine det_read (.int .i64 d.ver) (fun V x K => load_cell Ty.int_agg (has_at (hb V x) (d := 0) rfl rfl)) ?_
    refine det_read (.agg c.cells.toArray) (fun V x K => SChart.g_all (hg V x)) ?_
    refine det_ext_ret (u64v (digestV C).1) (fun V x => refDigest29_ret V (hc4 V x) hok) ?_
    refine det_read (.agg d.cells.toArray) (fun V x K => SChart.g_all (hb V x)) ?_
    refine det_ext_ret (u64v (digestV (nextC C l)).1) (fun V x => refDigest29_ret V (hd4 V x) hnok) ?_
    refine det_read (.agg (SIssue.mk d.ver (digestV C).1 (digestV (nextC C l)).1 h SSig.zero).cells.toArray) (fun V x K => by rw [build_i (new_issue15 _ _ _ _)]) ?_
    refine nd_alloc Ty.SIssue_zero fun r => ?_
    rintro V xV ⟨_, b12, rfl, hat12z, hb12⟩
    have hat12z : At V b12 (.cells SIssue.zero.cells.toArray 55 (0, 0)) := hat12z
    have hh1 := Own.ext ho5 (y6.trans xV)
    have q5 := y45.size
    have q6 := y6.size
    have qV := xV.size
    refine SIssue.set (r := SIssue.zero) hat12z fun V1 n1 hat12o t1 => ?_
    have x0V := x06.trans xV
    have z0V := x0V.size
    have x0V1 : Ext w V1 := ext_step15 x0V n1 (by omega)
    have x3V : Ext w3 V := x36.trans xV
    have x3V1 : Ext w3 V1 := ext_step15 x3V n1 (by have := x3V.size; omega)
    have hh2 := Own.mod hh1 n1 (Own.off_at hh1 hat12z (by decide))
    have hI1 : IssueIs V1 (SIssue.mk d.ver (digestV C).1 (digestV (nextC C l)).1 h SSig.zero) (bareOf C l) := ⟨hdv, rfl, rfl, Sl.of_owns hh2, rfl⟩
    rw [SIssue.g_all (has_of_at hat12o)]
    refine callF_ret (refIssInts_ret V1 hI1 (by show l.length < _; omega)) ?_
    rintro m V2 ⟨hm, u2⟩
    have hsm := issInts_small (I := bareOf C l) (by show I64 (C.ver + 1); constructor <;> omega) hl (by show l.length ≤ _; omega)
    refine callF_ret (refSign_ret ⟨hsm.1, by simp [issInts, bareOf]; omega⟩ V2 hm) ?_
    rintro _ V3 ⟨rfl, u3⟩
    rw [ext2_0, ext2_1]
    have u13 := u2.trans u3
    refine SIssue.s_sig (x := (Sig.signV s o (issInts (bareOf C l))).1) (hat12o.ext u13) fun V4 n4 hat12 t4 => ?_
    let t : SIssue := { SIssue.mk d.ver (digestV C).1 (digestV (nextC C l)).1 h SSig.zero with sig := (Sig.signV s o (issInts (bareOf C l))).1 }
    have hat12 : At V4 b12 (.cells t.cells.toArray 55 (0, 0)) := hat12
    have hh3 := Own.ext hh2 u13
    have hh4 := Own.mod hh3 n4 (Own.off_at hh3 (hat12o.ext u13) (by decide))
    have x3V4 : Ext w3 V4 := ext_step15 (x3V1.trans u13) n4 (by have := x3V.size; omega)
    have x6V4 : Ext W6 V4 := ext_step15 ((ext_step15 xV n1 (by omega)).trans u13) n4 (by omega)
    have x1V4 : Ext W2 V4 := y26.trans x6V4
    have h84 := h8.ext x3V4
    have h94 := hat3.ext x3V4
    have h114 : At V4 b11 (.cells d.cells.toArray 26 (0, 0)) := (hat11.ext (y45.trans y6)).ext x6V4
    refine draw_turn2 b8 (.cells SIssue.zero.cells.toArray 55 (0, 0)) (.cells t.cells.toArray 55 (0, 0)) fun V5 x5 s5 => ?_
    refine det_turn2 (.agg t.cells.toArray) (fun V x K => SIssue.g_all (has_of_at ((hat12.ext x5).mod x.1 (by omega)))) ?_
    refine det_turn2 (.agg d.cells.toArray) (fun V x K => SChart.g_all (has_of_at ((h114.ext x5).mod x.1 (by omega)))) ?_
    refine det_fill_iss (h84.ext x5) ?_
    intro V6 k6 hψ
    have h86 := hψ.2
    have h96 := (h94.ext x5).mod k6.1 b89.symm
    refine SChart.set (r := SChart.zero) h96 fun V7 m7 h97 _ => ?_
    have hh5 := Own.ext hh4 x5
    have hh6 := Own.mod hh5 k6.1 (Own.off_at hh5 (h84.ext x5) (by decide))
    have hh7 := Own.mod hh6 m7 (Own.off_at hh6 h96 (by decide))
    have hmk : makeV C l s o = (issOf C l s o, nextC C l, 0) := by
      unfold makeV
      rw [if_pos hall, if_pos hvo, if_neg (by omega)]
    have q1' := x1V4.size
    have q5 := x5.size
    have q6 := x03.size
    have mm : Mod (fun k => w0.heap.size ≤ k ∧ k < W1.heap.size) W2 V7 := ((Mod.of_ext (x1V4.trans x5)).trans (k6.1.mono fun k _ h => by omega)).trans (m7.mono fun k _ h => by omega)
    refine res_i (rv_cell (issue_var (h86.mod m7 b89)) (rv_cell (chart_var h97) (rv_tmp (rv_nil _)))) (hR _ _ ⟨⟨t, d, by rw [hmk]; rfl, ?_, by rw [hmk]; exact (hdm.mod mm).mono (by omega)⟩, ?_⟩)
    · rw [hmk]
      exact ⟨hdv, rfl, rfl, Sl.of_owns hh7, rfl⟩
    · exact (((Mod.of_ext ((x03.trans x3V4).trans x5) : Mod (w.heap.size ≤ ·) w V5).trans (k6.1.mono fun k _ h => by omega)).trans (m7.mono fun k _ h => by omega)).new
  · refine join1 (fun q W => Ext w3 W ∧ q = .bool (!(Cha.valid C && (Sig.inQ 1 s && Sig.inQ 1 o)))) ?_ fun K5 hK5 => ?_
    · rintro h13 _ W hq ⟨xW, rfl⟩
      rw [hq]
      have x0W := x03.trans xW
      refine Br_i (fun hb => ?_) fun hb => ?_
      · exact make_bad hR x0W (h8.ext xW) (hat3.ext xW) (by omega) (by omega) b89 (by unfold makeV; rw [if_neg fun h => by rw [h] at hb; cases hb])
      · exact hK4 _ ⟨xW, by simpa using hb⟩
    · rw [un_not]
      refine Gd_i (fun hb => ?_) fun hb => ?_
      · have hb : Cha.valid C = true := by simpa using hb
        rw [un_not]
        refine Gd_i (fun hb2 => ?_) fun hb2 => ?_
        · have hb2 : Sig.inQ 1 s = true := by simpa using hb2
          rw [un_not]
          exact hK5 _ _ ⟨y4, by rw [hb, hb2]; rfl⟩
        · have hb2 : Sig.inQ 1 s = false := by simpa using hb2
          exact hK5 _ _ ⟨y4, by rw [hb, hb2]; rfl⟩
      · have hb : Cha.valid C = false := by simpa using hb
        exact hK5 _ _ ⟨y4, by rw [hb]; rfl⟩
end Go.Proofs.YtnbcdaonkdffkaaGreatDoor
