/- The walks of the journal: well-formed records, their integers. -/
import Derived.Test.YtahplhcijlgelaaT1
import Derived.Test.YtahplhcijlgelaaJou
namespace Go.Proofs.Ytahplhcijlgelaa
set_option maxRecDepth 100000
open Sh Go.RowKit
theorem SEntry.zero_new : Try.prog.built 26 [] = some SEntry.zero.cells.toArray := by kernel_rfl
theorem SRecord.zero_new : Try.prog.built 29 [] = some SRecord.zero.cells.toArray := by kernel_rfl
theorem box_rec {r : SRecord} {w : World} {K : Value → World → Prop} {X : List PanicEntry → World → Prop} (hk : ∀ b w1, Ext w w1 → At w1 b (.cells r.cells.toArray 29 (0, 0)) → w.heap.size = b → K (.pointer (some ⟨b, 0, none⟩)) w1) :
    DoV Try.prog (Instr.box 29 (.agg r.cells.toArray)) w K X := box_i fun b w1 x1 h1 h2 _ => hk b w1 x1 h1 h2
theorem isRecord_ret (r : SRecord) (w : World) : Ret Try.prog 24 #[.agg r.cells.toArray] w fun v w' => v = .bool (Jou.form r) ∧ Ext w w' := by
  refine ret_of (fun _ _ => sh_journal_isRecord_ok _) fun R hR => ?_
  unfold sh_journal_isRecord
  refine box_rec fun b w1 x1 hat _ => ?_
  have h := has_of_at hat
  have hend : ∀ q : Bool, q = Jou.form r → R (.returned (.bool q)) w1 := fun q hq => hR _ _ ⟨by rw [hq], x1⟩
  rw [SRecord.g_kind h, bin_eql]
  unfold Jou.form at hend
  refine Br_i (fun hb => ?_) fun hb => ?_
  · have hk := dec_t hb
    rw [if_pos hk] at hend
    rw [SRecord.g_entry_seq h, bin_leq]
    refine Gd_i (fun hb1 => ?_) fun hb1 => ?_
    · rw [hb1] at hend
      rw [SRecord.g_entry_seq h, bin_leq]
      refine Gd_i (fun hb2 => ?_) fun hb2 => ?_
      · rw [hb2] at hend
        rw [SRecord.g_seq h, bin_eql]
        refine Gd_i (fun hb3 => ?_) fun hb3 => ?_
        · rw [hb3] at hend
          rw [SRecord.g_chain h, u64lit 0#64 0 (by decide), u64_eql]
          exact hend _ (by simp)
        · rw [hb3] at hend; exact hend _ (by simp)
      · rw [hb2] at hend; exact hend _ (by simp)
    · rw [hb1] at hend; exact hend _ (by simp)
  · have hk := dec_f hb
    rw [if_neg hk] at hend
    rw [bin_eql]
    refine Br_i (fun hb0 => ?_) fun hb0 => ?_
    · rw [hb0] at hend
      rw [SRecord.g_seq h, bin_leq]
      refine Gd_i (fun hb1 => ?_) fun hb1 => ?_
      · rw [hb1] at hend
        rw [SRecord.g_seq h, bin_leq]
        refine Gd_i (fun hb2 => ?_) fun hb2 => ?_
        · rw [hb2] at hend
          rw [SRecord.g_entry h, build_i SEntry.zero_new, SEntry.eql]
          exact hend _ (by simp)
        · rw [hb2] at hend; exact hend _ (by simp)
      · rw [hb1] at hend; exact hend _ (by simp)
    · rw [hb0] at hend; exact hend _ (by simp)
theorem Form_ret (r : SRecord) (w : World) : Ret Try.prog 20 #[.agg r.cells.toArray] w fun v w' => v = .bool (Jou.form r) ∧ Ext w w' := by
  refine ret_of (fun _ _ => sh_landfallref40_Form_ok _) fun R hR => ?_
  unfold sh_landfallref40_Form
  refine box_rec fun b w1 x1 hat _ => ?_
  have h := has_of_at hat
  have hend : ∀ q : Bool, q = Jou.form r → R (.returned (.bool q)) w1 := fun q hq => hR _ _ ⟨by rw [hq], x1⟩
  rw [SRecord.g_kind h, bin_eql]
  unfold Jou.form at hend
  refine Br_i (fun hb => ?_) fun hb => ?_
  · have hk := dec_t hb
    rw [if_pos hk] at hend
    rw [SRecord.g_entry_seq h, bin_geq]
    refine Gd_i (fun hb1 => ?_) fun hb1 => ?_
    · rw [hb1] at hend
      rw [SRecord.g_entry_seq h, bin_leq]
      refine Gd_i (fun hb2 => ?_) fun hb2 => ?_
      · rw [hb2] at hend
        rw [SRecord.g_seq h, bin_eql]
        refine Gd_i (fun hb3 => ?_) fun hb3 => ?_
        · rw [hb3] at hend
          rw [SRecord.g_chain h, u64lit 0#64 0 (by decide), u64_eql]
          exact hend _ (by simp)
        · rw [hb3] at hend; exact hend _ (by simp)
      · rw [hb2] at hend; exact hend _ (by simp)
    · rw [hb1] at hend; exact hend _ (by simp)
  · have hk := dec_f hb
    rw [if_neg hk] at hend
    rw [SRecord.g_kind h, bin_eql]
    refine Gd_i (fun hb0 => ?_) fun hb0 => ?_
    · rw [hb0] at hend
      rw [SRecord.g_entry h, build_i SEntry.zero_new, SEntry.eql]
      refine Gd_i (fun hb1 => ?_) fun hb1 => ?_
      · rw [hb1] at hend
        rw [SRecord.g_seq h, bin_geq]
        refine Gd_i (fun hb2 => ?_) fun hb2 => ?_
        · rw [hb2] at hend
          rw [SRecord.g_seq h, bin_leq]
          exact hend _ (by simp)
        · rw [hb2] at hend; exact hend _ (by simp)
      · rw [hb1] at hend; exact hend _ (by simp)
    · rw [hb0] at hend; exact hend _ (by simp)
theorem list_ret (v : Value) (w : World) : Ret Try.prog 35 #[v] w fun r w' => r = v ∧ w' = w := by
  refine ret_of (fun _ _ => sh_journal_list_ok _) fun R hR => ?_
  unfold sh_journal_list
  exact hR _ _ ⟨rfl, rfl⟩
theorem chain_hi (c : BitVec 64) : IntKind.i64.wrap (IntKind.u64.wrap ((c.toNat : Int).tdiv 4294967296)) = ((c.toNat / 4294967296 : Nat) : Int) := by
  have := c.isLt
  have e : (c.toNat : Int).tdiv 4294967296 = ((c.toNat / 4294967296 : Nat) : Int) := rfl
  rw [e, u64w, i64_wrap (by omega) (by omega)]; omega
theorem chain_lo (c : BitVec 64) : IntKind.i64.wrap ((c.toNat : Int).tmod 4294967296) = ((c.toNat % 4294967296 : Nat) : Int) := by
  have := c.isLt
  have e : (c.toNat : Int).tmod 4294967296 = ((c.toNat % 4294967296 : Nat) : Int) := rfl
  rw [e, i64_wrap (by omega) (by omega)]
def IntsQ (r : SRecord) (w : World) (v : Value) (w' : World) : Prop := Ext w w' ∧ w'.ownsRow w.heap.size 3 1 v (Jou.ints r).length (iv (Jou.ints r))
theorem ints_ret (r : SRecord) (w : World) : Ret Try.prog 25 #[.agg r.cells.toArray] w (IntsQ r w) := by
  refine ret_of (fun _ _ => sh_journal_ints_ok _) fun R hR => ?_
  unfold sh_journal_ints
  refine box_rec fun b w1 x1 hat hbs => ?_
  have h := has_of_at hat
  have z1 := x1.size
  rw [SRecord.g_kind h, bin_eql]
  refine Br_i (fun hb => ?_) fun hb => ?_
  · have hk := dec_t hb
    have e : Jou.ints r = [r.kind, r.seq, ((r.chain.toNat / 4294967296 : Nat) : Int), ((r.chain.toNat % 4294967296 : Nat) : Int)] := by unfold Jou.ints; rw [if_pos hk]
    rw [SRecord.g_kind h, SRecord.g_seq h, SRecord.g_chain h, u64v, bin_quo (by decide), conv_int Ty.u64 Ty.int, chain_hi, SRecord.g_chain h, u64v, bin_rem (by decide), conv_int Ty.u64 Ty.int, chain_lo]
    refine lit_ints [r.kind, r.seq, ((r.chain.toNat / 4294967296 : Nat) : Int), ((r.chain.toNat % 4294967296 : Nat) : Int)] rfl (by decide) (by decide) rfl fun v w2 x2 h2 _ => ?_
    refine callF_same (list_ret v w2) ?_
    exact hR _ _ ⟨x1.trans x2, by rw [e]; exact Own.mono h2 z1⟩
  · have hk := dec_f hb
    have e : Jou.ints r = r.kind :: Jou.eints r.entry := by unfold Jou.ints; rw [if_neg hk]
    rw [SRecord.g_entry h]
    refine alloc_i Ty.SEntry_zero fun b2 w2 x2 hat2 hb2 _ => ?_
    refine store_all Ty.SEntry_size hat2 rfl rfl (by intro u hu; exact SEntry.one r.entry u hu) fun w3 m3 hat3 hs3 => ?_
    have h3 : Has w3 b2 0 r.entry.cells := has_of_at hat3
    have hlt := hat.lt
    have x3 : Ext w w3 := (((Mod.of_ext x1 : Mod (w.heap.size ≤ ·) w w1).trans (.of_ext x2)).trans (m3.mono fun k _ h => by omega)).new
    have hr3 : Has w3 b 0 r.cells := has_of_at ((hat.ext x2).mod m3 (by omega))
    have z3 := x3.size
    rw [SRecord.g_kind hr3, SEntry.g_seq h3, SEntry.g_time h3, SEntry.g_kind h3, SEntry.g_sensor h3, SEntry.g_ref h3, SEntry.g_a h3, SEntry.g_n h3, SEntry.g_value_lo h3, SEntry.g_value_hi h3, SEntry.g_temp h3, SEntry.g_age h3, SEntry.g_since h3]
    refine lit_ints (r.kind :: Jou.eints r.entry) rfl (by decide) (by decide) rfl fun v w4 x4 h4 _ => ?_
    refine callF_same (list_ret v w4) ?_
    exact hR _ _ ⟨x3.trans x4, by rw [e]; exact Own.mono h4 z3⟩
theorem refInts_ret (r : SRecord) (w : World) : Ret Try.prog 27 #[.agg r.cells.toArray] w (IntsQ r w) := by
  refine ret_of (fun _ _ => sh_landfallref40_Ints_ok _) fun R hR => ?_
  unfold sh_landfallref40_Ints
  refine box_rec fun b w1 x1 hat hbs => ?_
  have h := has_of_at hat
  have z1 := x1.size
  rw [SRecord.g_kind h, bin_eql]
  refine Br_i (fun hb => ?_) fun hb => ?_
  · have hk := dec_t hb
    have e : Jou.ints r = [r.kind, r.seq, ((r.chain.toNat / 4294967296 : Nat) : Int), ((r.chain.toNat % 4294967296 : Nat) : Int)] := by unfold Jou.ints; rw [if_pos hk]
    rw [SRecord.g_kind h, SRecord.g_seq h, SRecord.g_chain h, u64v, bin_quo (by decide), conv_int Ty.u64 Ty.int, chain_hi, SRecord.g_chain h, u64v, bin_rem (by decide), conv_int Ty.u64 Ty.int, chain_lo]
    refine lit_ints [r.kind, r.seq, ((r.chain.toNat / 4294967296 : Nat) : Int), ((r.chain.toNat % 4294967296 : Nat) : Int)] rfl (by decide) (by decide) rfl fun v w2 x2 h2 _ => ?_
    exact hR _ _ ⟨x1.trans x2, by rw [e]; exact Own.mono h2 z1⟩
  · have hk := dec_f hb
    have e : Jou.ints r = r.kind :: Jou.eints r.entry := by unfold Jou.ints; rw [if_neg hk]
    rw [SRecord.g_entry h]
    refine alloc_i Ty.SEntry_zero fun b2 w2 x2 hat2 hb2 _ => ?_
    refine store_all Ty.SEntry_size hat2 rfl rfl (by intro u hu; exact SEntry.one r.entry u hu) fun w3 m3 hat3 hs3 => ?_
    have h3 : Has w3 b2 0 r.entry.cells := has_of_at hat3
    have hlt := hat.lt
    have x3 : Ext w w3 := (((Mod.of_ext x1 : Mod (w.heap.size ≤ ·) w w1).trans (.of_ext x2)).trans (m3.mono fun k _ h => by omega)).new
    have hr3 : Has w3 b 0 r.cells := has_of_at ((hat.ext x2).mod m3 (by omega))
    have z3 := x3.size
    rw [SRecord.g_kind hr3, SEntry.g_seq h3, SEntry.g_time h3, SEntry.g_kind h3, SEntry.g_sensor h3, SEntry.g_ref h3, SEntry.g_a h3, SEntry.g_n h3, SEntry.g_value_lo h3, SEntry.g_value_hi h3, SEntry.g_temp h3, SEntry.g_age h3, SEntry.g_since h3]
    refine lit_ints (r.kind :: Jou.eints r.entry) rfl (by decide) (by decide) rfl fun v w4 x4 h4 _ => ?_
    exact hR _ _ ⟨x3.trans x4, by rw [e]; exact Own.mono h4 z3⟩
theorem half_ret (n : Int) (w : World) : Ret Try.prog 43 #[.int .i64 n] w fun v w' => v = .bool (Jou.isHalf n) ∧ w' = w := by
  refine ret_of (fun _ _ => sh_landfallref40_half_ok _) fun R hR => ?_
  unfold sh_landfallref40_half
  rw [bin_geq]
  refine Gd_i (fun hb => ?_) fun hb => ?_
  · rw [bin_lss]; exact hR _ _ ⟨by unfold Jou.isHalf; rw [hb]; simp, rfl⟩
  · exact hR _ _ ⟨by unfold Jou.isHalf; rw [hb]; simp, rfl⟩
end Go.Proofs.Ytahplhcijlgelaa
