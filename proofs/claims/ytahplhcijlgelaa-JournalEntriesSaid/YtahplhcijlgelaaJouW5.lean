/- The walks of both Put. -/
import Derived.Test.YtahplhcijlgelaaJouW4
import Derived.Test.YtahplhcijlgelaaUse
namespace Go.Proofs.Ytahplhcijlgelaa
set_option maxRecDepth 100000
set_option maxHeartbeats 2000000
open Sh Go.RowKit
/-- What Put of either kind gives: the bytes and the error. -/
def jputV (b : List UInt8) (r : SRecord) : List UInt8 × Int := if Jou.form r = false then ([], 1) else if 200000 < b.length + (Jou.frameOf r).length then ([], 2) else (b ++ Jou.frameOf r, 0)
def JPutQ (b : List UInt8) (r : SRecord) (w : World) (v : Value) (w' : World) : Prop :=
  ∃ x, v = .tuple #[x, .int .i64 (jputV b r).2] ∧ w'.ownsRow w.heap.size 5 1 x (jputV b r).1.length (bv (jputV b r).1) ∧ Ext w w'
theorem jframe_few {r : SRecord} (h : r.Ok) : 12 ≤ (Jou.frameOf r).length ∧ (Jou.frameOf r).length ≤ 400 := by
  have hl := (Jou.ints_len r).2
  unfold Jou.frameOf
  rw [Cod.frame_length]
  have h1 := Cod.put_length (Jou.ints_ok h) (by omega)
  have h2 := Cod.put_pos (Jou.ints r)
  omega
theorem jput_end {b : List UInt8} {r : SRecord} {w w4 : World} {v0 vf : Value} {R : Ending → World → Prop} (hR : ∀ v w', JPutQ b r w v w' → R (.returned v) w') (hx : Ext w w4) (h0 : Sl w4 1 v0 b.length (bv b)) (hfr : Sl w4 1 vf (Jou.frameOf r).length (bv (Jou.frameOf r)))
    (hf : ¬ Jou.form r = false) (hlt : ¬ 200000 < b.length + (Jou.frameOf r).length) :
    DoV Try.prog (Instr.buildSlice 22 0 #[]) w4 (fun x w5 => CallB Try.prog .append #[22, 22] 22 #[false, false] #[x, v0] w5 (fun y w6 => CallB Try.prog .append #[22, 22] 22 #[false, false] #[y, vf] w6 (fun z w7 => R (.returned (.tuple #[z, .int .i64 0])) w7) (Pan R)) (Pan R)) (Pan R) := by
  have z4 := hx.size
  refine lit_nobytes fun v5 w5 x5 hv5 hs5 => ?_
  have z5 := x5.size
  refine app_bytes hv5 (h0.ext x5) (by simp; omega) (by omega) fun v6 w6 hv6 m6 => ?_
  have hoff : ∀ k, v5.ownBlock = some k → w4.heap.size ≤ k := fun k hk => (Own.block hv5 hk).1
  have m46 : Mod (w4.heap.size ≤ ·) w4 w6 := (Mod.of_ext x5 : Mod (w4.heap.size ≤ ·) w4 w5).trans (m6.mono fun k _ hk => hoff k hk)
  have x6 : Ext w4 w6 := m46.new
  have z6 := x6.size
  rw [List.nil_append] at hv6
  refine app_bytes hv6 (hfr.ext x6) (by omega) (by omega) fun v7 w7 hv7 m7 => ?_
  have m47 : Mod (w4.heap.size ≤ ·) w4 w7 := m46.trans (m7.mono fun k _ hk => (Own.block hv6 hk).1)
  have e : jputV b r = (b ++ Jou.frameOf r, 0) := by unfold jputV; rw [if_neg hf, if_neg hlt]
  exact hR _ _ ⟨_, by rw [e], by rw [e]; exact Own.mono hv7 z4, hx.trans m47.new⟩
theorem jPut_ret {v0 : Value} {b : List UInt8} {r : SRecord} (hr : r.Ok) (hbl : b.length ≤ 1000000000000000) (w : World) (h0 : Sl w 1 v0 b.length (bv b)) : Ret Try.prog 10 #[v0, .agg r.cells.toArray] w (JPutQ b r w) := by
  refine ret_of (fun _ _ => sh_journal_Put_ok _ _) fun R hR => ?_
  unfold sh_journal_Put
  refine box_rec fun g w1 x1 hat hbs => ?_
  have h := has_of_at hat
  rw [SRecord.g_all h]
  refine callF_ret (isRecord_ret r w1) ?_
  rintro _ w2 ⟨rfl, x2⟩
  rw [un_not]
  refine Br_i (fun hb => ?_) fun hb => ?_
  · have hf : Jou.form r = false := by simpa using hb
    have e : jputV b r = ([], 1) := by unfold jputV; rw [if_pos hf]
    exact hR _ _ ⟨_, by rw [e], by rw [e]; exact Own.nil _ _ _ _, x1.trans x2⟩
  · have hf : ¬ Jou.form r = false := by simpa using hb
    rw [SRecord.g_all (has_of_at (hat.ext x2))]
    refine callF_ret (ints_ret r w2) ?_
    rintro vi w3 ⟨x3, hvi⟩
    refine callF_ret (Frame_ret (Jou.ints_ok hr) w3 (Sl.of_owns hvi)) ?_
    intro vf w4 hq
    obtain ⟨x4, hq⟩ := hq
    have hil := (Jou.ints_len r).2
    rw [if_neg (by omega)] at hq
    obtain ⟨vf', rfl, hown⟩ := hq
    have hfr : Sl w4 1 vf' (Jou.frameOf r).length (bv (Jou.frameOf r)) := Sl.of_owns hown
    rw [ext2_0, ext2_1]
    have hx4 := ((x1.trans x2).trans x3).trans x4
    have h04 := h0.ext hx4
    refine join0 (fun w' => w' = w4 ∧ ¬ 200000 < b.length + (Jou.frameOf r).length) ?_ fun K hK => ?_
    · rintro _ w5 ⟨hw, hlt⟩
      subst hw
      exact jput_end hR hx4 h04 hfr hf hlt
    · refine join1 (fun x w' => w' = w4 ∧ x = .bool (decide (200000 < b.length + (Jou.frameOf r).length))) ?_ fun K2 hK2 => ?_
      · rintro hh x w5 hx ⟨hw, hlt⟩
        subst hw hlt
        rw [hx]
        refine Br_i (fun hb => ?_) fun hb => ?_
        · have hlt := dec_t hb
          have e : jputV b r = ([], 2) := by unfold jputV; rw [if_neg hf, if_pos hlt]
          exact hR _ _ ⟨_, by rw [e], by rw [e]; exact Own.nil _ _ _ _, hx4⟩
        · exact hK _ ⟨rfl, dec_f hb⟩
      · have hb1 := h04.le
        have hb2 := hfr.le
        rw [show okE = Value.int .i64 0 from rfl, bin_neq]
        refine gd_f ?_
        rw [h04.len Ty.bytes, hfr.len Ty.bytes, bin_add, bin_gtr]
        have hb2 := (jframe_few hr).2
        have e1 : IntKind.i64.wrap ((b.length : Int) + (Jou.frameOf r).length) = ((b.length + (Jou.frameOf r).length : Nat) : Int) := by
          rw [i64_wrap (by omega) (by omega)]; omega
        rw [e1]
        refine hK2 _ _ ⟨rfl, ?_⟩
        congr 1
        rw [decide_eq_decide]
        omega
theorem jrefPut_ret {v0 : Value} {b : List UInt8} {r : SRecord} (hr : r.Ok) (hbl : b.length ≤ 1000000000000000) (w : World) (h0 : Sl w 1 v0 b.length (bv b)) : Ret Try.prog 11 #[v0, .agg r.cells.toArray] w (JPutQ b r w) := by
  refine ret_of (fun _ _ => sh_landfallref40_Put_ok _ _) fun R hR => ?_
  unfold sh_landfallref40_Put
  refine box_rec fun g w1 x1 hat hbs => ?_
  have h := has_of_at hat
  rw [SRecord.g_all h]
  refine callF_ret (Form_ret r w1) ?_
  rintro _ w2 ⟨rfl, x2⟩
  rw [un_not]
  refine Br_i (fun hb => ?_) fun hb => ?_
  · have hf : Jou.form r = false := by simpa using hb
    have e : jputV b r = ([], 1) := by unfold jputV; rw [if_pos hf]
    exact hR _ _ ⟨_, by rw [e], by rw [e]; exact Own.nil _ _ _ _, x1.trans x2⟩
  · have hf : ¬ Jou.form r = false := by simpa using hb
    rw [SRecord.g_all (has_of_at (hat.ext x2))]
    refine callF_ret (refInts_ret r w2) ?_
    rintro vi w3 ⟨x3, hvi⟩
    refine callF_ret (refFrame_ret (Jou.ints_ok hr) w3 (Sl.of_owns hvi)) ?_
    intro vf w4 hq
    obtain ⟨x4, hq⟩ := hq
    have hil := (Jou.ints_len r).2
    rw [if_neg (by omega)] at hq
    obtain ⟨vf', rfl, hown⟩ := hq
    have hfr : Sl w4 1 vf' (Jou.frameOf r).length (bv (Jou.frameOf r)) := Sl.of_owns hown
    rw [ext2_0, ext2_1]
    have hx4 := ((x1.trans x2).trans x3).trans x4
    have h04 := h0.ext hx4
    have hb2 := (jframe_few hr).2
    have e1 : IntKind.i64.wrap ((b.length : Int) + (Jou.frameOf r).length) = ((b.length + (Jou.frameOf r).length : Nat) : Int) := by
      rw [i64_wrap (by omega) (by omega)]; omega
    rw [h04.len Ty.bytes, hfr.len Ty.bytes, bin_add, e1, bin_gtr]
    refine Br_i (fun hb => ?_) fun hb => ?_
    · have hlt : 200000 < b.length + (Jou.frameOf r).length := by have := dec_t hb; omega
      have e : jputV b r = ([], 2) := by unfold jputV; rw [if_neg hf, if_pos hlt]
      exact hR _ _ ⟨_, by rw [e], by rw [e]; exact Own.nil _ _ _ _, hx4⟩
    · exact jput_end hR hx4 h04 hfr hf (by have := dec_f hb; omega)
end Go.Proofs.Ytahplhcijlgelaa
