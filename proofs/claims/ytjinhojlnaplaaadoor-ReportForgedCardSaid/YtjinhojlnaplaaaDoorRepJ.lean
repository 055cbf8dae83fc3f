/- The walks of reports: Chain, message, Check; both. The walks of reports: Message and Formed of the reference, Check; both. The walks of reports: Clone, Make; both. The walks of reports: Make of the reference, SameEntries, Same, Few. The plain laws of logs and reports. No program in sight. The law's helpers: Few, usable, secrets, turned, changed, with, example. The law's helpers: with, example, head. The law's helper head. -/
import Derived.Test.YtjinhojlnaplaaaDoorRepT
import Derived.Test.YtjinhojlnaplaaaDoorSigA
/-! ## RepC -/
namespace Go.Proofs.YtjinhojlnaplaaaDoor
set_option maxRecDepth 100000
set_option maxHeartbeats 8000000
open Sh Go.RowKit
namespace Rep
structure Lg where
  veh : Int
  rs : List (List SPoint)
  ents : List SEntry
structure Rpt where
  veh : Int
  first : Int
  ents : List SEntry
  before : BitVec 64
  chain : BitVec 64
  sig : SSig
noncomputable def Lg.valid (L : Lg) : Bool := Rep.valid L.veh L.rs L.ents
noncomputable def chainV (L : Lg) (last : Int) : BitVec 64 × Int := if L.valid = true ∧ 0 ≤ last ∧ last ≤ L.ents.length then (carry (begin L.veh) (L.ents.take last.toNat), 0) else (0, 1)
def hi (d : BitVec 64) : Int := (d.toNat / 4294967296 : Nat)
def lo (d : BitVec 64) : Int := (d.toNat % 4294967296 : Nat)
def msg (r : Rpt) : List Int := [r.veh, r.first, r.ents.length, hi r.before, lo r.before, hi r.chain, lo r.chain]
def okR (r : Rpt) : Bool := isID r.veh && (decide (0 < r.ents.length) && follows r.ents r.first)
def checkV (r : Rpt) (p : Int) : Bool × Int := if okR r = true then ((Sig.verV p r.sig (msg r)).1 && decide (carry r.before r.ents = r.chain), (Sig.verV p r.sig (msg r)).2) else (false, 1)
end Rep
def LogIs (w : World) (s : SLog) (L : Rep.Lg) : Prop := s.veh = L.veh ∧ RL w s.start.val L.rs ∧ SEntry.Row w s.ents.val L.ents
def LogOk (L : Rep.Lg) : Prop := I64 L.veh ∧ (∀ l ∈ L.rs, ∀ p ∈ l, p.Ok) ∧ ∀ e ∈ L.ents, e.Ok
def RepIs (w : World) (s : SReport) (r : Rep.Rpt) : Prop := s.veh = r.veh ∧ s.first = r.first ∧ SEntry.Row w s.ents.val r.ents ∧ s.before = r.before ∧ s.chain = r.chain ∧ s.sig = r.sig
def RepOk (r : Rep.Rpt) : Prop := I64 r.veh ∧ I64 r.first ∧ (∀ e ∈ r.ents, e.Ok) ∧ r.sig.Ok ∧ r.ents.length ≤ 9223372036854775807
theorem LogIs.ext {w w' : World} {s : SLog} {L : Rep.Lg} (h : LogIs w s L) (he : Ext w w') : LogIs w' s L := ⟨h.1, h.2.1.ext he, Sl.ext h.2.2 he⟩
theorem RepIs.ext {w w' : World} {s : SReport} {r : Rep.Rpt} (h : RepIs w s r) (he : Ext w w') : RepIs w' s r := ⟨h.1, h.2.1, Sl.ext h.2.2.1 he, h.2.2.2⟩
/-- Valid, of a log as a value. -/
theorem LogIs.valid_ret {s : SLog} {L : Rep.Lg} {w : World} (h : LogIs w s L) (hok : LogOk L) : Ret Tryd.prog 33 #[.agg s.cells.toArray] w fun r w' => r = .bool L.valid ∧ Ext w w' := by
  have := logValid_ret (s := s) hok.2.1 w h.2.1 h.2.2
  rw [h.1] at this; exact this
theorem LogIs.refValid_ret {s : SLog} {L : Rep.Lg} {w : World} (h : LogIs w s L) : Ret Tryd.prog 34 #[.agg s.cells.toArray] w fun r w' => r = .bool L.valid ∧ Ext w w' := by
  have := refLogValid_ret (s := s) w h.2.1 h.2.2
  rw [h.1] at this; exact this
theorem ents_upto {w : World} {v : Value} {l : List SEntry} (h : SEntry.Row w v l) {k : Nat} (hk : k ≤ l.length) : ∃ v', SEntry.Row w v' (l.take k) ∧ ∀ (w1 : World) (K : Value → World → Prop) (X : List PanicEntry → World → Prop), DoV Tryd.prog (Instr.sliceAt 47 v none (some (.int .i64 k)) none) w1 K X = K v' w1 := by
  obtain ⟨i, hi, hz, hs, hby⟩ := Ty.info_parts Ty.SEntry_info
  obtain ⟨v', h1, h2⟩ := upto_val (k := .i64) Ty.SEntry_row hi hs (by decide) h hk
  rw [fl_take SEntry.len] at h1
  exact ⟨v', by rw [SEntry.Row, List.length_take, Nat.min_eq_left hk]; exact h1, h2⟩
theorem ents_part {w : World} {v : Value} {l : List SEntry} (h : SEntry.Row w v l) {j k : Nat} (hj : j ≤ k) (hk : k ≤ l.length) : ∃ v', SEntry.Row w v' ((l.take k).drop j) ∧ ∀ (w1 : World) (K : Value → World → Prop) (X : List PanicEntry → World → Prop), DoV Tryd.prog (Instr.sliceAt 47 v (some (.int .i64 j)) (some (.int .i64 k)) none) w1 K X = K v' w1 := by
  obtain ⟨i, hi, hz, hs, hby⟩ := Ty.info_parts Ty.SEntry_info
  obtain ⟨v', h1, h2⟩ := range_val (k := .i64) (k' := .i64) Ty.SEntry_row hi hs (by decide) h hj hk
  rw [fl_take SEntry.len, fl_drop SEntry.len] at h1
  exact ⟨v', by rw [SEntry.Row, List.length_drop, List.length_take, Nat.min_eq_left hk]; exact h1, h2⟩
theorem Ty.ents_agg (w : World) : (isAgg 47).run Tryd.prog w = .ok false w := by kernel_rfl
def ChainQ (L : Rep.Lg) (last : Int) (w : World) (r : Value) (w' : World) : Prop := r = .tuple #[u64v (Rep.chainV L last).1, .int .i64 (Rep.chainV L last).2] ∧ Ext w w'
theorem Chain_ret {s : SLog} {L : Rep.Lg} {last : Int} (hok : LogOk L) (w : World) (h : LogIs w s L) (ht : Tab w) : Ret Tryd.prog 31 #[.agg s.cells.toArray, .int .i64 last] w (ChainQ L last w) := by
  refine ret_of (fun _ _ => sh_report_Chain_ok _ _) fun R hR => ?_
  unfold sh_report_Chain
  refine box_i fun g w1 x1 hat _ _ => ?_
  have hg : ∀ W, Ext w1 W → Has W g 0 s.cells := fun W x => has_of_at (hat.ext x)
  have hle := h.2.2.le
  refine join0 (fun W => Ext w1 W ∧ L.valid = true ∧ 0 ≤ last ∧ last ≤ L.ents.length) ?_ fun K hK => ?_
  · rintro _ W ⟨xW, hval⟩
    obtain ⟨n, rfl⟩ : ∃ n : Nat, last = n := ⟨last.toNat, by omega⟩
    have hn : n ≤ L.ents.length := by omega
    refine drawR1 fun w3 x3 hs3 => ?_
    have xW3 := xW.trans x3
    obtain ⟨v', hv', hsl⟩ := ents_upto h.2.2 hn
    refine det_r1 _ (fun w4 m4 K => Ty.SLog_f2) ?_
    refine det_r1 s.ents.val (fun w4 m4 K => load_cell Ty.ents_agg (has_at (hg w4 (xW3.trans m4.new)) (d := 2) rfl rfl)) ?_
    refine det_r1 v' (fun w4 m4 K => hsl w4 K _) ?_
    refine det_r1 _ (fun w4 m4 K => Ty.SLog_f0) ?_
    refine det_r1 (.int .i64 s.veh) (fun w4 m4 K => load_cell Ty.int_agg (has_at (hg w4 (xW3.trans m4.new)) (d := 0) rfl rfl)) ?_
    refine thr_1 (fun vs _ => ∃ v, vs = [v, u64v (Rep.begin L.veh)]) ?_ ?_
    · refine nd_last (fun v w4 => Sl w4 1 v 1 (iv [s.veh])) (fun v a b hs hx => Sl.ext hs hx) (fun w4 m4 _ => ?_) fun v1 => ?_
      · refine lit_ints [s.veh] rfl (by decide) (by decide) rfl fun v w5 x5 h5 _ => ?_
        exact ⟨.of_ext x5, Sl.of_owns h5⟩
      · refine nd_last (fun v _ => v = u64v (Rep.begin L.veh)) (fun v a b hs hx => hs) (fun w4 m4 hsl => ?_) fun v2 => ?_
        · refine callF_ret (sum_int_ret (l := [s.veh]) (by intro m hm; rw [List.mem_singleton] at hm; subst hm; rw [h.1]; exact hok.1) w4 hsl (ht.ext ((x1.trans xW3).trans m4.new))) ?_
          rintro _ w5 ⟨rfl, x5⟩
          exact ⟨.of_ext x5, by rw [h.1]; rfl⟩
        · rintro w4 _ rfl
          exact ⟨v1, rfl⟩
    · rintro hh w4 m4 ⟨_, _, v1, e1⟩
      simp only [List.cons.injEq, and_true] at e1
      rw [e1.2]
      have x4 := (x1.trans xW3).trans m4.new
      refine callF_ret (carry_ret _ (fun e he => hok.2.2 e (List.mem_of_mem_take he)) w4 (Sl.ext hv' x4) (ht.ext x4)) ?_
      rintro _ w5 ⟨rfl, x5⟩
      refine hR _ _ ⟨?_, x4.trans x5⟩
      rw [Rep.chainV, if_pos hval]; rfl
  · have bad : ∀ W, Ext w1 W → ¬ (L.valid = true ∧ 0 ≤ last ∧ last ≤ L.ents.length) → R (.returned (.tuple #[.int .u64 0, .int .i64 1])) W := fun W xW hn => hR _ _ ⟨by rw [Rep.chainV, if_neg hn]; rfl, x1.trans xW⟩
    refine join_in fun K2 hK1 => ?_
    rw [SLog.g_all (hg w1 (Ext.refl _))]
    refine callF_ret ((h.ext x1).valid_ret hok) ?_
    rintro _ w2 ⟨rfl, x2⟩
    rw [un_not]
    refine Gd_i (fun hb => ?_) fun hb => leaf1 hK1 fun h hh => by rw [hh]; exact br_t (bad w2 x2 (by rintro ⟨e, _⟩; rw [e] at hb; cases hb))
    have hb : L.valid = true := by simpa using hb
    rw [bin_lss]
    refine Gd_i (fun hb1 => ?_) fun hb1 => leaf1 hK1 fun h hh => by rw [hh]; exact br_t (bad w2 x2 (by have := dec_t hb1; omega))
    rw [SLog.g_ents (hg w2 x2), SEntry.row_len (Sl.ext h.2.2 (x1.trans x2)), bin_gtr]
    refine leaf1 hK1 fun h hh => ?_
    rw [hh]
    refine Br_i (fun hb2 => bad w2 x2 (by have := dec_t hb2; omega)) fun hb2 => hK _ ⟨x2, hb, ?_⟩
    have := dec_f hb1; have := dec_f hb2
    omega
theorem refChain_ret {s : SLog} {L : Rep.Lg} {last : Int} (hok : LogOk L) (w : World) (h : LogIs w s L) : Ret Tryd.prog 32 #[.agg s.cells.toArray, .int .i64 last] w (ChainQ L last w) := by
  refine ret_of (fun _ _ => sh_landfallref24_Chain_ok _ _) fun R hR => ?_
  unfold sh_landfallref24_Chain
  refine box_i fun g w1 x1 hat _ _ => ?_
  have hg : ∀ W, Ext w1 W → Has W g 0 s.cells := fun W x => has_of_at (hat.ext x)
  have hle := h.2.2.le
  refine join0 (fun W => Ext w1 W ∧ L.valid = true ∧ 0 ≤ last ∧ last ≤ L.ents.length) ?_ fun K hK => ?_
  · rintro _ W ⟨xW, hval⟩
    obtain ⟨n, rfl⟩ : ∃ n : Nat, last = n := ⟨last.toNat, by omega⟩
    have hn : n ≤ L.ents.length := by omega
    refine draw_ext fun w3 x3 => ?_
    have xW3 := xW.trans x3
    obtain ⟨v', hv', hsl⟩ := ents_upto h.2.2 hn
    refine det_read _ (fun w4 x4 K => Ty.SLog_f0) ?_
    refine det_read (.int .i64 s.veh) (fun w4 x4 K => load_cell Ty.int_agg (has_at (hg w4 (xW3.trans x4)) (d := 0) rfl rfl)) ?_
    refine det_ret _ (fun w4 x4 => Begin_ret (by rw [h.1]; exact hok.1) w4) ?_
    refine det_read _ (fun w4 x4 K => Ty.SLog_f2) ?_
    refine det_read s.ents.val (fun w4 x4 K => load_cell Ty.ents_agg (has_at (hg w4 (xW3.trans x4)) (d := 2) rfl rfl)) ?_
    refine det_read v' (fun w4 x4 K => hsl w4 K _) ?_
    intro w4 x4 _
    have x14 := (x1.trans xW3).trans x4
    refine callF_ret (Carry_ret _ (fun e he => hok.2.2 e (List.mem_of_mem_take he)) w4 (Sl.ext hv' x14)) ?_
    rintro _ w5 ⟨rfl, x5⟩
    refine hR _ _ ⟨?_, x14.trans x5⟩
    rw [Rep.chainV, if_pos hval, h.1]; rfl
  · have bad : ∀ W, Ext w1 W → ¬ (L.valid = true ∧ 0 ≤ last ∧ last ≤ L.ents.length) → R (.returned (.tuple #[.int .u64 0, .int .i64 1])) W := fun W xW hn => hR _ _ ⟨by rw [Rep.chainV, if_neg hn]; rfl, x1.trans xW⟩
    refine join_in fun K2 hK1 => ?_
    rw [SLog.g_all (hg w1 (Ext.refl _))]
    refine callF_ret ((h.ext x1).refValid_ret) ?_
    rintro _ w2 ⟨rfl, x2⟩
    rw [un_not]
    refine Gd_i (fun hb => ?_) fun hb => leaf1 hK1 fun h hh => by rw [hh]; exact br_t (bad w2 x2 (by rintro ⟨e, _⟩; rw [e] at hb; cases hb))
    have hb : L.valid = true := by simpa using hb
    rw [SLog.g_ents (hg w2 x2), SEntry.row_len (Sl.ext h.2.2 (x1.trans x2))]
    refine callF_same (in24_ret _ _ _ w2) ?_
    rw [un_not]
    refine leaf1 hK1 fun h hh => ?_
    rw [hh]
    refine Br_i (fun hb2 => bad w2 x2 (by simp only [Bool.not_eq_true', decide_eq_false_iff_not] at hb2; omega)) fun hb2 => hK _ ⟨x2, hb, ?_⟩
    simpa using hb2
/-! ### messages -/
theorem hi_lt (d : BitVec 64) : 0 ≤ Rep.hi d ∧ Rep.hi d < 4294967296 := by have := d.isLt; unfold Rep.hi; omega
theorem lo_lt (d : BitVec 64) : 0 ≤ Rep.lo d ∧ Rep.lo d < 4294967296 := by unfold Rep.lo; omega
theorem shr32 (d : BitVec 64) : IntKind.i64.wrap ((d.toNat : Int).fdiv (2 ^ min (32 : Int).toNat IntKind.u64.bits)) = Rep.hi d := by
  have e : ((2 : Int) ^ min (32 : Int).toNat IntKind.u64.bits) = 4294967296 := by decide
  have h := hi_lt d
  have e2 : (d.toNat : Int).fdiv 4294967296 = Rep.hi d := by
    rw [Int.fdiv_eq_ediv_of_nonneg _ (by decide)]
    unfold Rep.hi; omega
  rw [e, e2, i64_wrap (by omega) (by omega)]
theorem and32 (d : BitVec 64) : IntKind.i64.wrap (IntKind.u64.wrap (BitVec.ofInt IntKind.u64.bits (d.toNat : Int) &&& BitVec.ofInt IntKind.u64.bits 4294967295).toNat) = Rep.lo d := by
  have e : (BitVec.ofInt IntKind.u64.bits (d.toNat : Int) &&& BitVec.ofInt IntKind.u64.bits 4294967295).toNat = d.toNat % 4294967296 := by
    have e1 : BitVec.ofInt IntKind.u64.bits (d.toNat : Int) = d := by
      apply BitVec.eq_of_toNat_eq
      have := d.isLt
      simp only [IntKind.bits, BitVec.toNat_ofInt]; omega
    have e2 : BitVec.ofInt IntKind.u64.bits 4294967295 = 4294967295#64 := rfl
    rw [e1, e2]
    show (d &&& (4294967295#64 : BitVec 64)).toNat = _
    rw [BitVec.toNat_and]
    exact Nat.and_two_pow_sub_one_eq_mod d.toNat 32
  have h := lo_lt d
  rw [e, u64w]
  unfold Rep.lo at h ⊢
  rw [show ((d.toNat % 4294967296 : Nat) : Int) % 18446744073709551616 = ((d.toNat % 4294967296 : Nat) : Int) by omega, i64_wrap (by omega) (by omega)]
theorem quo32 (d : BitVec 64) : IntKind.i64.wrap (IntKind.u64.wrap ((d.toNat : Int).tdiv 4294967296)) = Rep.hi d := by
  have h := hi_lt d
  have e2 : (d.toNat : Int).tdiv 4294967296 = Rep.hi d := rfl
  rw [e2, u64w, show Rep.hi d % 18446744073709551616 = Rep.hi d by omega, i64_wrap (by omega) (by omega)]
theorem rem32 (d : BitVec 64) : IntKind.i64.wrap ((d.toNat : Int).tmod 4294967296) = Rep.lo d := by
  have h := lo_lt d
  have e2 : (d.toNat : Int).tmod 4294967296 = Rep.lo d := rfl
  rw [e2, i64_wrap (by omega) (by omega)]
theorem msg_ok {r : Rep.Rpt} (h : RepOk r) : SmallList (Rep.msg r) := by
  have b1 := hi_lt r.before; have b2 := lo_lt r.before; have b3 := hi_lt r.chain; have b4 := lo_lt r.chain
  have h5 := h.2.2.2.2
  refine ⟨fun n hn => ?_, by simp [Rep.msg]⟩
  rw [Rep.msg, List.mem_cons, List.mem_cons, List.mem_cons, List.mem_cons, List.mem_cons, List.mem_cons, List.mem_singleton] at hn
  rcases hn with hn | hn | hn | hn | hn | hn | hn
  · rw [hn]; exact h.1
  · rw [hn]; exact h.2.1
  all_goals (rw [hn]; unfold I64; omega)
theorem Ty.u64s : Tryd.prog.underlying 111 = some (.slice 39) := by kernel_rfl
theorem Ty.u64_info : (Tryd.prog.info? 39).map (fun i => (i.zero, i.size, i.bytes)) = some (some (.int .u64 0), 1, 8) := by kernel_rfl
theorem message_ret {s : SReport} {r : Rep.Rpt} (w : World) (h : RepIs w s r) : Ret Tryd.prog 70 #[.agg s.cells.toArray] w fun v w' => Sl w' 1 v (Rep.msg r).length (iv (Rep.msg r)) ∧ Ext w w' := by
  refine ret_of (fun _ _ => sh_report_message_ok _) fun R hR => ?_
  unfold sh_report_message
  refine box_i fun g w1 x1 hat _ _ => ?_
  have hg : ∀ W, Ext w1 W → Has W g 0 s.cells := fun W x => has_of_at (hat.ext x)
  have h1 := hg w1 (Ext.refl _)
  rw [SReport.g_veh h1, SReport.g_first h1, SReport.g_ents h1, SEntry.row_len (Sl.ext h.2.2.1 x1)]
  refine lit_ints [s.veh, s.first, (r.ents.length : Int)] rfl (by decide) (by decide) rfl fun v0 w2 x2 ho2 _ => ?_
  have h2 := hg w2 x2
  rw [SReport.g_before h2, SReport.g_chain h2]
  obtain ⟨i, hi, hz, hs, hby⟩ := Ty.info_parts Ty.u64_info
  refine litn_i [u64v s.before, u64v s.chain] Ty.u64s hi hs hz (by intro v hv; simp at hv; rcases hv with rfl | rfl <;> rfl) rfl (by decide) (by decide) rfl fun vd w3 x3 ho3 _ => ?_
  have hsd := Sl.of_owns ho3
  rw [hsd.len Ty.u64s]
  have hd : [s.before, s.chain] = [r.before, r.chain] := by rw [h.2.2.2.1, h.2.2.2.2.1]
  have part : ∀ k, (Rep.msg r).take (3 + 2 * k) = [s.veh, s.first, (r.ents.length : Int)] ++ ([s.before, s.chain].take k).flatMap fun d => [Rep.hi d, Rep.lo d] := fun k => by
    rw [hd, h.1, h.2.1]
    match k with
    | 0 => rfl
    | 1 => rfl
    | 2 => rfl
    | k + 3 => rw [List.take_of_length_le (by simp [Rep.msg]; omega), List.take_of_length_le (by simp)]; rfl
  refine loop2 (fun y x W => ∃ k : Nat, k ≤ 2 ∧ x = .int .i64 k ∧ Ext w1 W ∧ W.ownsRow w2.heap.size 39 1 vd 2 [u64v s.before, u64v s.chain] ∧ W.ownsRow w1.heap.size 3 1 y ((Rep.msg r).take (3 + 2 * k)).length (iv ((Rep.msg r).take (3 + 2 * k)))) (fun _ x _ => 2 - (intOf x).toNat)
    ⟨0, by omega, rfl, x2.trans x3, ho3, by rw [part 0]; exact Own.ext ho2 x3⟩ ?_
  rintro hh _ _ W hy hx ⟨k, hk, rfl, xW, hovd, hown⟩ K hK
  rw [hx, bin_lss]
  refine Br_i (fun hb => ?_) fun hb => ?_
  · have hlt : k < 2 := by have := dec_t hb; omega
    obtain ⟨d, hdk⟩ : ∃ d, [s.before, s.chain][k]? = some d := ⟨_, List.getElem?_eq_getElem (by simpa using hlt)⟩
    obtain ⟨b, o, hc, hbl, hix⟩ := (Sl.of_owns hovd).index Ty.u64s hi hs (k := .i64) hlt (by decide)
    have hcell : W.cell? ⟨b, o + k * 1, none⟩ = some (u64v d) := cell_ext (by rw [Nat.mul_one]; exact hc k _ (by
      match k, hlt with
      | 0, _ => cases hdk; rfl
      | 1, _ => cases hdk; rfl)) hbl (Ext.refl _)
    rw [hix, load_cell Ty.u64_agg hcell, u64v, bin_shr (by decide), conv_int Ty.u64 Ty.int, shr32, bin_and, conv_int Ty.u64 Ty.int, and32]
    refine lit_ints [Rep.hi d, Rep.lo d] rfl (by decide) (by decide) rfl fun v4 w4 x4 ho4 _ => ?_
    rw [hy]
    have hl7 : (Rep.msg r).length = 7 := rfl
    refine app_ints (m := [Rep.hi d, Rep.lo d]) (Own.ext hown x4) (Sl.of_owns ho4) (by rw [List.length_take]; simp; omega) (by have := xW.size; have := x4.size; omega) fun v5 w5 ho5 m5 => ?_
    rw [bin_add, i64_wrap (by omega) (by omega)]
    have x5 : Ext w1 w5 := ((Mod.of_ext (xW.trans x4) : Mod (w1.heap.size ≤ ·) w1 w4).trans (m5.mono fun j _ hj => (Own.block (Own.ext hown x4) hj).1)).new
    refine hK _ _ _ ⟨k + 1, by omega, by simp, x5, ?_, ?_⟩ (by simp [intOf]; omega)
    · exact Own.mod (Own.ext hovd x4) m5 (Own.off_own (Own.ext hown x4) (Own.ext hovd x4) (by decide))
    · have e : (Rep.msg r).take (3 + 2 * (k + 1)) = (Rep.msg r).take (3 + 2 * k) ++ [Rep.hi d, Rep.lo d] := by
        rw [part, part]
        match k, hlt with
        | 0, _ => cases hdk; rfl
        | 1, _ => cases hdk; rfl
      rw [e]
      exact ho5
  · have hk2 : k = 2 := by have := dec_f hb; omega
    subst hk2
    rw [hy]
    have e : (Rep.msg r).take (3 + 2 * 2) = Rep.msg r := rfl
    rw [e] at hown
    exact hR _ _ ⟨Sl.of_owns hown, x1.trans xW⟩
end Go.Proofs.YtjinhojlnaplaaaDoor
/-! ## RepD -/
namespace Go.Proofs.YtjinhojlnaplaaaDoor
set_option maxRecDepth 100000
set_option maxHeartbeats 8000000
open Sh Go.RowKit
theorem has_sub {w : World} {b o d o' : Nat} {cs xs : List Value} (h : Has w b o cs) (ho : o' = o + d) (hx : (cs.drop d).take xs.length = xs) : Has w b o' xs := fun j u hu => has_part h ho hx hu
theorem bin_eqv {x y : BitVec 64} {K : Value → World → Prop} {X : List PanicEntry → World → Prop} {t : TypeId} {ox oy : Operand} {w : World} {P : Program} : DoV P (binS .eql t ox oy (u64v x) (u64v y)) w K X = K (.bool (decide (x = y))) w := by
  rw [u64v, u64v, bin_eql]
  congr 2
  rw [decide_eq_decide]
  exact ⟨fun h => BitVec.eq_of_toNat_eq (by omega), fun h => by rw [h]⟩
theorem refMessage_ret {s : SReport} {r : Rep.Rpt} (w : World) (h : RepIs w s r) : Ret Tryd.prog 71 #[.agg s.cells.toArray] w fun v w' => Sl w' 1 v (Rep.msg r).length (iv (Rep.msg r)) ∧ Ext w w' := by
  refine ret_of (fun _ _ => sh_landfallref24_Message_ok _) fun R hR => ?_
  unfold sh_landfallref24_Message
  refine box_i fun g w1 x1 hat _ _ => ?_
  have h1 : Has w1 g 0 s.cells := has_of_at hat
  rw [SReport.g_veh h1, SReport.g_first h1, SReport.g_ents h1, SEntry.row_len (Sl.ext h.2.2.1 x1), SReport.g_before h1, u64v, bin_quo (by decide), conv_int Ty.u64 Ty.int, quo32, SReport.g_before h1, u64v, bin_rem (by decide), conv_int Ty.u64 Ty.int]
  rw [rem32]
  rw [SReport.g_chain h1, u64v, bin_quo (by decide), conv_int Ty.u64 Ty.int, quo32, SReport.g_chain h1, u64v, bin_rem (by decide), conv_int Ty.u64 Ty.int]
  rw [rem32]
  rw [h.1, h.2.1, h.2.2.2.1, h.2.2.2.2.1]
  refine lit_ints (Rep.msg r) rfl (by decide) (by decide) rfl fun v0 w2 x2 ho2 _ => ?_
  exact hR _ _ ⟨Sl.of_owns ho2, x1.trans x2⟩
theorem refFormed_ret {s : SReport} {r : Rep.Rpt} (w : World) (h : RepIs w s r) : Ret Tryd.prog 48 #[.agg s.cells.toArray] w fun v w' => v = .bool (Rep.okR r) ∧ Ext w w' := by
  refine ret_of (fun _ _ => sh_landfallref24_Formed_ok _) fun R hR => ?_
  unfold sh_landfallref24_Formed
  refine box_i fun g w1 x1 hat _ _ => ?_
  have h1 : Has w1 g 0 s.cells := has_of_at hat
  rw [SReport.g_veh h1]
  refine callF_same (in24_ret _ _ _ w1) ?_
  rw [h.1]
  have e1 : decide (1 ≤ r.veh ∧ r.veh ≤ 1000000) = Rep.isID r.veh := rfl
  rw [e1]
  refine Gd_i (fun hb => ?_) fun hb => hR _ _ ⟨by rw [Rep.okR, hb]; rfl, x1⟩
  rw [SReport.g_ents h1, SEntry.row_len (Sl.ext h.2.2.1 x1), bin_gtr]
  refine Gd_i (fun hb1 => ?_) fun hb1 => hR _ _ ⟨by rw [Rep.okR, hb, show decide (0 < r.ents.length) = false by have := dec_f hb1; rw [decide_eq_false_iff_not]; omega]; rfl, x1⟩
  rw [SReport.g_ents h1, SReport.g_first h1]
  refine callF_ret (Follow_ret _ w1 (Sl.ext h.2.2.1 x1)) ?_
  rintro _ w2 ⟨rfl, x2⟩
  exact hR _ _ ⟨by rw [Rep.okR, hb, show decide (0 < r.ents.length) = true by have := dec_t hb1; rw [decide_eq_true_eq]; omega, h.2.1]; rfl, x1.trans x2⟩
def CheckQ (r : Rep.Rpt) (p : Int) (w : World) (v : Value) (w' : World) : Prop := v = .tuple #[.bool (Rep.checkV r p).1, .int .i64 (Rep.checkV r p).2] ∧ Ext w w'
theorem Check_ret {s : SReport} {r : Rep.Rpt} {p : Int} (hok : RepOk r) (w : World) (h : RepIs w s r) (ht : Tab w) : Ret Tryd.prog 38 #[.agg s.cells.toArray, .int .i64 p] w (CheckQ r p w) := by
  refine ret_of (fun _ _ => sh_report_Check_ok _ _) fun R hR => ?_
  unfold sh_report_Check
  refine box_i fun g w1 x1 hat _ _ => ?_
  have hg : ∀ W, Ext w1 W → Has W g 0 s.cells := fun W x => has_of_at (hat.ext x)
  have hm := msg_ok hok
  rw [SReport.g_ents (hg w1 (Ext.refl _))]
  refine join0 (fun W => Ext w1 W ∧ Rep.okR r = true) ?_ fun K hK => ?_
  · rintro _ W ⟨xW, hval⟩
    have xW0 := x1.trans xW
    refine drawR1 fun w3 x3 hs3 => ?_
    have xW3 := xW.trans x3
    refine det_r1 _ (fun w4 m4 K => Ty.SReport_f5) ?_
    refine det_r1 (.agg s.sig.cells.toArray) (fun w4 m4 K => SSig.g_all (has_sub (hg w4 (xW3.trans m4.new)) (d := 5) (xs := s.sig.cells) (o' := 5) rfl rfl)) ?_
    refine det_r1 (.agg s.cells.toArray) (fun w4 m4 K => SReport.g_all (hg w4 (xW3.trans m4.new))) ?_
    have ev : ∀ w4, Mod (w3.heap.size ≤ ·) w3 w4 → Ext w w4 := fun w4 m4 => (x1.trans xW3).trans m4.new
    refine thr_1 (fun vs _ => ∃ v1 v2 v3, vs = [v1, v2, v3, .bool (Sig.verV p r.sig (Rep.msg r)).1, .int .i64 (Sig.verV p r.sig (Rep.msg r)).2, .bool (Sig.verV p r.sig (Rep.msg r)).1]) ?_ ?_
    · refine nd_last (fun v w4 => Sl w4 1 v (Rep.msg r).length (iv (Rep.msg r))) (fun v a b hs hx => Sl.ext hs hx) (fun w4 m4 _ => ?_) fun v1 => ?_
      · refine callF_ret (message_ret w4 (h.ext (ev w4 m4))) ?_
        rintro _ w5 ⟨h5, x5⟩
        exact ⟨.of_ext x5, h5⟩
      refine nd_last (fun v _ => v = .tuple #[.bool (Sig.verV p r.sig (Rep.msg r)).1, .int .i64 (Sig.verV p r.sig (Rep.msg r)).2]) (fun v a b hs hx => hs) (fun w4 m4 hsl => ?_) fun v2 => ?_
      · rw [h.2.2.2.2.2]
        refine callF_ret (Verify_ret hm w4 hsl (ht.ext (ev w4 m4))) ?_
        rintro _ w5 ⟨rfl, x5⟩
        exact ⟨.of_ext x5, rfl⟩
      refine nd_last (fun v _ => v = .tuple #[.bool (Sig.verV p r.sig (Rep.msg r)).1, .int .i64 (Sig.verV p r.sig (Rep.msg r)).2]) (fun v a b hs hx => hs) (fun w4 m4 hsl => ⟨Mod.refl _ _, hsl⟩) fun v3 => ?_
      refine nd_last (fun v _ => v3 = .tuple #[.bool (Sig.verV p r.sig (Rep.msg r)).1, .int .i64 (Sig.verV p r.sig (Rep.msg r)).2] ∧ v = .bool (Sig.verV p r.sig (Rep.msg r)).1) (fun v a b hs hx => hs) (fun w4 m4 hsl => by rw [hsl, ext_tuple rfl]; exact ⟨Mod.refl _ _, rfl, rfl⟩) fun v4 => ?_
      refine nd_last (fun v _ => v4 = .bool (Sig.verV p r.sig (Rep.msg r)).1 ∧ v = .int .i64 (Sig.verV p r.sig (Rep.msg r)).2) (fun v a b hs hx => hs) (fun w4 m4 hsl => by rw [hsl.1, ext_tuple rfl]; exact ⟨Mod.refl _ _, hsl.2, rfl⟩) fun v5 => ?_
      refine nd_last (fun v _ => v4 = .bool (Sig.verV p r.sig (Rep.msg r)).1 ∧ v5 = .int .i64 (Sig.verV p r.sig (Rep.msg r)).2 ∧ v = .bool (Sig.verV p r.sig (Rep.msg r)).1) (fun v a b hs hx => hs) (fun w4 m4 hsl => ⟨Mod.refl _ _, hsl.1, hsl.2, hsl.1⟩) fun v6 => ?_
      rintro w4 _ ⟨rfl, rfl, rfl⟩
      exact ⟨v1, v2, v3, rfl⟩
    · rintro hh w4 m4 ⟨_, _, v1, v2, v3, e1⟩
      simp only [List.cons.injEq, and_true] at e1
      rw [e1.2.2.2.2.2, e1.2.2.2.2.1]
      have x4 := ev w4 m4
      have x14 := xW3.trans m4.new
      refine draw_ext fun w6 x6 => ?_
      refine Gd_i (fun hb => ?_) fun hb => ?_
      · refine det_read _ (fun w7 x7 K => Ty.SReport_f3) ?_
        refine det_read (u64v s.before) (fun w7 x7 K => load_cell Ty.u64_agg (has_at (hg w7 ((x14.trans x6).trans x7)) (d := 3) rfl rfl)) ?_
        refine det_ret _ (fun w7 x7 => carry_ret _ hok.2.2.1 w7 (Sl.ext h.2.2.1 ((x4.trans x6).trans x7)) (ht.ext ((x4.trans x6).trans x7))) ?_
        refine det_read _ (fun w7 x7 K => Ty.SReport_f4) ?_
        refine det_read (u64v s.chain) (fun w7 x7 K => load_cell Ty.u64_agg (has_at (hg w7 ((x14.trans x6).trans x7)) (d := 4) rfl rfl)) ?_
        refine det_read _ (fun w7 x7 K => bin_eqv) ?_
        intro w7 x7 _
        refine hR _ _ ⟨?_, (x4.trans x6).trans x7⟩
        rw [Rep.checkV, if_pos hval, hb, h.2.2.2.1, h.2.2.2.2.1]; rfl
      · intro w7 x7 _
        refine hR _ _ ⟨?_, (x4.trans x6).trans x7⟩
        rw [Rep.checkV, if_pos hval, hb]; rfl
  · have bad : ∀ W, Ext w1 W → Rep.okR r = false → R (.returned (.tuple #[.bool false, .int .i64 1])) W := fun W xW hn => hR _ _ ⟨by rw [Rep.checkV, if_neg (by rw [hn]; decide)], x1.trans xW⟩
    refine join_in fun K2 hK1 => ?_
    rw [SReport.g_veh (hg w1 (Ext.refl _))]
    refine callF_same (isID_ret _ w1) ?_
    rw [un_not, h.1]
    refine Gd_i (fun hb => ?_) fun hb => leaf1 hK1 fun h hh => by rw [hh]; exact br_t (bad w1 (Ext.refl _) (by rw [Rep.okR, show Rep.isID r.veh = false by simpa using hb]; rfl))
    have hb : Rep.isID r.veh = true := by simpa using hb
    rw [(Sl.ext h.2.2.1 x1).len Ty.ents_und, bin_eql]
    refine Gd_i (fun hb1 => ?_) fun hb1 => leaf1 hK1 fun h hh => by rw [hh]; exact br_t (bad w1 (Ext.refl _) (by rw [Rep.okR, hb, show decide (0 < r.ents.length) = false by have := dec_t hb1; rw [decide_eq_false_iff_not]; omega]; rfl))
    have e2 : decide (0 < r.ents.length) = true := by have := dec_f hb1; rw [decide_eq_true_eq]; omega
    rw [SReport.g_first (hg w1 (Ext.refl _))]
    refine callF_ret (follow_ret _ w1 (Sl.ext h.2.2.1 x1)) ?_
    rintro _ w2 ⟨rfl, x2⟩
    rw [un_not, h.2.1]
    refine leaf1 hK1 fun h hh => ?_
    rw [hh]
    have e3 : Rep.okR r = Rep.follows r.ents r.first := by rw [Rep.okR, hb, e2]; rfl
    exact Br_i (fun hb2 => bad w2 x2 (by rw [e3]; simpa using hb2)) fun hb2 => hK _ ⟨x2, by rw [e3]; simpa using hb2⟩
theorem refCheck_ret {s : SReport} {r : Rep.Rpt} {p : Int} (hok : RepOk r) (w : World) (h : RepIs w s r) : Ret Tryd.prog 39 #[.agg s.cells.toArray, .int .i64 p] w (CheckQ r p w) := by
  refine ret_of (fun _ _ => sh_landfallref24_Check_ok _ _) fun R hR => ?_
  unfold sh_landfallref24_Check
  refine box_i fun g w1 x1 hat _ _ => ?_
  have hg : ∀ W, Ext w1 W → Has W g 0 s.cells := fun W x => has_of_at (hat.ext x)
  have hm := msg_ok hok
  have hm2 : (∀ n ∈ Rep.msg r, I64 n) ∧ (Rep.msg r).length ≤ 900000 := ⟨hm.1, by simp [Rep.msg]⟩
  refine join0 (fun W => Ext w1 W ∧ Rep.okR r = true ∧ Sig.member p = true ∧ Sig.inQ 0 r.sig.e = true ∧ Sig.inQ 0 r.sig.s = true) ?_ fun K hK => ?_
  · rintro _ W ⟨xW, hval, hq⟩
    have ev2 : (Sig.verV p r.sig (Rep.msg r)).2 = 0 := by rw [Sig.verV, if_pos hq]
    have xW0 := x1.trans xW
    refine drawR1 fun w3 x3 hs3 => ?_
    have xW3 := xW.trans x3
    refine det_r1 _ (fun w4 m4 K => Ty.SReport_f5) ?_
    refine det_r1 (.agg s.sig.cells.toArray) (fun w4 m4 K => SSig.g_all (has_sub (hg w4 (xW3.trans m4.new)) (d := 5) (xs := s.sig.cells) (o' := 5) rfl rfl)) ?_
    refine det_r1 (.agg s.cells.toArray) (fun w4 m4 K => SReport.g_all (hg w4 (xW3.trans m4.new))) ?_
    have ev : ∀ w4, Mod (w3.heap.size ≤ ·) w3 w4 → Ext w w4 := fun w4 m4 => (x1.trans xW3).trans m4.new
    refine thr_1 (fun vs _ => ∃ v1 v2 v3 v5, vs = [v1, v2, v3, .bool (Sig.verV p r.sig (Rep.msg r)).1, v5, .bool (Sig.verV p r.sig (Rep.msg r)).1]) ?_ ?_
    · refine nd_last (fun v w4 => Sl w4 1 v (Rep.msg r).length (iv (Rep.msg r))) (fun v a b hs hx => Sl.ext hs hx) (fun w4 m4 _ => ?_) fun v1 => ?_
      · refine callF_ret (refMessage_ret w4 (h.ext (ev w4 m4))) ?_
        rintro _ w5 ⟨h5, x5⟩
        exact ⟨.of_ext x5, h5⟩
      refine nd_last (fun v _ => v = .tuple #[.bool (Sig.verV p r.sig (Rep.msg r)).1, .int .i64 (Sig.verV p r.sig (Rep.msg r)).2]) (fun v a b hs hx => hs) (fun w4 m4 hsl => ?_) fun v2 => ?_
      · rw [h.2.2.2.2.2]
        refine callF_ret (refVerify_ret hm2 w4 hsl) ?_
        rintro _ w5 ⟨rfl, x5⟩
        exact ⟨.of_ext x5, rfl⟩
      refine nd_last (fun v _ => v = .tuple #[.bool (Sig.verV p r.sig (Rep.msg r)).1, .int .i64 (Sig.verV p r.sig (Rep.msg r)).2]) (fun v a b hs hx => hs) (fun w4 m4 hsl => ⟨Mod.refl _ _, hsl⟩) fun v3 => ?_
      refine nd_last (fun v _ => v3 = .tuple #[.bool (Sig.verV p r.sig (Rep.msg r)).1, .int .i64 (Sig.verV p r.sig (Rep.msg r)).2] ∧ v = .bool (Sig.verV p r.sig (Rep.msg r)).1) (fun v a b hs hx => hs) (fun w4 m4 hsl => by rw [hsl, ext_tuple rfl]; exact ⟨Mod.refl _ _, rfl, rfl⟩) fun v4 => ?_
      refine nd_last (fun v _ => v4 = .bool (Sig.verV p r.sig (Rep.msg r)).1) (fun v a b hs hx => hs) (fun w4 m4 hsl => by rw [hsl.1, ext_tuple rfl]; exact ⟨Mod.refl _ _, hsl.2⟩) fun v5 => ?_
      refine nd_last (fun v _ => v4 = .bool (Sig.verV p r.sig (Rep.msg r)).1 ∧ v = .bool (Sig.verV p r.sig (Rep.msg r)).1) (fun v a b hs hx => hs) (fun w4 m4 hsl => ⟨Mod.refl _ _, hsl, hsl⟩) fun v6 => ?_
      rintro w4 _ ⟨rfl, rfl⟩
      exact ⟨v1, v2, v3, v5, rfl⟩
    · rintro hh w4 m4 ⟨_, _, v1, v2, v3, v5, e1⟩
      simp only [List.cons.injEq, and_true] at e1
      rw [e1.2.2.2.2.2]
      have x4 := ev w4 m4
      have x14 := xW3.trans m4.new
      refine draw_ext fun w6 x6 => ?_
      refine Gd_i (fun hb => ?_) fun hb => ?_
      · refine det_read _ (fun w7 x7 K => Ty.SReport_f4) ?_
        refine det_read (u64v s.chain) (fun w7 x7 K => load_cell Ty.u64_agg (has_at (hg w7 ((x14.trans x6).trans x7)) (d := 4) rfl rfl)) ?_
        refine det_read _ (fun w7 x7 K => Ty.SReport_f3) ?_
        refine det_read (u64v s.before) (fun w7 x7 K => load_cell Ty.u64_agg (has_at (hg w7 ((x14.trans x6).trans x7)) (d := 3) rfl rfl)) ?_
        refine det_read _ (fun w7 x7 K => Ty.SReport_f2) ?_
        refine det_read s.ents.val (fun w7 x7 K => load_cell Ty.ents_agg (has_at (hg w7 ((x14.trans x6).trans x7)) (d := 2) rfl rfl)) ?_
        refine det_ret _ (fun w7 x7 => Carry_ret _ hok.2.2.1 w7 (Sl.ext h.2.2.1 ((x4.trans x6).trans x7))) ?_
        intro w7 x7 _
        rw [bin_eqv]
        refine hR _ _ ⟨?_, (x4.trans x6).trans x7⟩
        rw [Rep.checkV, if_pos hval, hb, ev2, h.2.2.2.1, h.2.2.2.2.1]
        simp only [Bool.true_and, eq_comm]
      · intro w7 x7 _
        refine hR _ _ ⟨?_, (x4.trans x6).trans x7⟩
        rw [Rep.checkV, if_pos hval, hb, ev2]; rfl
  · have bad : ∀ W, Ext w1 W → ¬ (Rep.okR r = true ∧ Sig.member p = true ∧ Sig.inQ 0 r.sig.e = true ∧ Sig.inQ 0 r.sig.s = true) → R (.returned (.tuple #[.bool false, .int .i64 1])) W := fun W xW hn => hR _ _ ⟨by
      rw [Rep.checkV]
      by_cases ho : Rep.okR r = true
      · rw [if_pos ho, Sig.verV, if_neg fun h => hn ⟨ho, h⟩]; rfl
      · rw [if_neg ho], x1.trans xW⟩
    refine join_in fun K2 hK1 => ?_
    rw [SReport.g_all (hg w1 (Ext.refl _))]
    refine callF_ret (refFormed_ret w1 (h.ext x1)) ?_
    rintro _ w2 ⟨rfl, x2⟩
    rw [un_not]
    refine Gd_i (fun hb => ?_) fun hb => leaf1 hK1 fun h hh => by rw [hh]; exact br_t (bad w2 x2 fun h => by rw [h.1] at hb; cases hb)
    have hb : Rep.okR r = true := by simpa using hb
    refine callF_ret (refMember_ret p w2) ?_
    rintro _ w3 ⟨rfl, x3⟩
    have x3 := x2.trans x3
    rw [un_not]
    refine Gd_i (fun hb1 => ?_) fun hb1 => leaf1 hK1 fun h hh => by rw [hh]; exact br_t (bad w3 x3 fun h => by rw [h.2.1] at hb1; cases hb1)
    have hb1 : Sig.member p = true := by simpa using hb1
    rw [SReport.g_sig_e (hg w3 x3)]
    refine callF_same (Exponent_ret _ w3) ?_
    rw [un_not, h.2.2.2.2.2]
    refine Gd_i (fun hb2 => ?_) fun hb2 => leaf1 hK1 fun h hh => by rw [hh]; exact br_t (bad w3 x3 fun h => by rw [h.2.2.1] at hb2; cases hb2)
    have hb2 : Sig.inQ 0 r.sig.e = true := by simpa using hb2
    rw [SReport.g_sig_s (hg w3 x3)]
    refine callF_same (Exponent_ret _ w3) ?_
    rw [un_not, h.2.2.2.2.2]
    refine leaf1 hK1 fun h hh => ?_
    rw [hh]
    exact Br_i (fun hb3 => bad w3 x3 fun h => by rw [h.2.2.2] at hb3; cases hb3) fun hb3 => hK _ ⟨x3, hb, hb1, hb2, by simpa using hb3⟩
end Go.Proofs.YtjinhojlnaplaaaDoor
/-! ## RepE -/
namespace Go.Proofs.YtjinhojlnaplaaaDoor
set_option maxRecDepth 100000
set_option maxHeartbeats 8000000
open Sh Go.RowKit
/-! ### drawn regions in which nothing but new memory is written -/
section draw
variable {P : Program} {X : List PanicEntry → World → Prop}
theorem drawRX {w : World} {body : (World → World → Prop) → (Nat → World → World → Prop) → World → Prop} (h : ∀ w0, Ext w w0 → w0.heap.size = w.heap.size → body Ext (fun _ => Ext) w0) : DrawR w body :=
  ⟨_, _, ⟨Ext.refl, fun _ _ _ => Ext.trans, fun _ => Ext.refl, fun _ _ _ _ => Ext.trans⟩, h w.drew (Ext.drew w) rfl⟩
theorem det_rx {w0 : World} {op : World → (Value → World → Prop) → Prop} {rest : Value → (World → Prop) → Prop} (c : Value) (h : ∀ w1, Ext w0 w1 → ∀ K : Value → World → Prop, op w1 K = K c w1) (hk : rest c fun _ => True) : DetOp Ext (Both Ext fun _ => Ext) w0 op rest :=
  det_pure c (fun a => ⟨Ext.refl a, fun _ => Ext.refl a⟩) (fun w1 h1 K hk => by rw [h w1 h1 K]; exact hk) hk
theorem nd_x {t : Nat} {w0 : World} {Θ : World → Prop} {op : World → (Value → World → Prop) → Prop} {rest : Value → (World → Prop) → Prop} (φ : Value → World → Prop) (hs : ∀ v a b, φ v a → Ext a b → φ v b) (hop : ∀ w1, Ext w0 w1 → Θ w1 → op w1 fun v w2 => Ext w1 w2 ∧ φ v w2) (hk : ∀ v, rest v (φ v)) : NdC Ext (fun _ => Ext) t w0 Θ op rest :=
  ⟨φ, hs, fun w1 h1 hΘ => by
    have := hop w1 h1 hΘ
    have e : (fun (v : Value) (w2 : World) => Ext w1 w2 ∧ φ v w2) = fun v w2 => (Ext w1 w2 ∧ ∀ u, u ≠ t → Ext w1 w2) ∧ φ v w2 := by
      funext v w2
      exact propext ⟨fun h => ⟨⟨h.1, fun _ _ => h.1⟩, h.2⟩, fun h => ⟨h.1.1, h.2⟩⟩
    rw [e] at this
    exact this, hk⟩
theorem thr_x {t : Nat} {w0 : World} {chain : (World → Prop) → (List Value → (World → Prop) → Prop) → Prop} {rest : (List Value → World → Prop) → Prop} (Φ : List Value → World → Prop) (hc : chain (fun _ => True) fun vs Θ => ∀ w1, Ext w0 w1 → Θ w1 → Φ vs w1) (hk : rest Φ) : ThrE Ext (fun _ => Ext) t w0 chain rest :=
  ⟨fun _ => True, Φ, trivial, fun _ _ _ _ => trivial, hc, hk⟩
end draw
theorem slnil_run (a : Option Addr) (n c : Nat) (w : World) : (binS .eql 47 (.tmp 3) (.const (.slice none 0 0)) (.slice a n c) (.slice none 0 0)).run Tryd.prog w = .ok (.bool a.isNone) w := by
  cases a with
  | none => kernel_rfl
  | some a => kernel_rfl
theorem bin_slnil {w : World} {K : Value → World → Prop} {X : List PanicEntry → World → Prop} {a : Option Addr} {n c : Nat} :
    DoV Tryd.prog (binS .eql 47 (.tmp 3) (.const (.slice none 0 0)) (.slice a n c) (.slice none 0 0)) w K X = K (.bool a.isNone) w := DoV_ok (slnil_run a n c w)
theorem ext2_0 {P : Program} {w : World} {K : Value → World → Prop} {X : List PanicEntry → World → Prop} {a b : Value} : DoV P (Instr.extract (.tuple #[a, b]) 0) w K X = K a w := ext_tuple rfl
theorem ext2_1 {P : Program} {w : World} {K : Value → World → Prop} {X : List PanicEntry → World → Prop} {a b : Value} : DoV P (Instr.extract (.tuple #[a, b]) 1) w K X = K b w := ext_tuple rfl
theorem Clone_ret {v : Value} {l : List SEntry} (w : World) (h : SEntry.Row w v l) (hl : l.length < 100000000) : Ret Tryd.prog 69 #[v] w fun r w' => SEntry.Owns w.heap.size w' r l ∧ Ext w w' := by
  refine ret_of (fun _ _ => sh_slices_Clone___api_Entry_api_Entry__ok _) fun R hR => ?_
  unfold sh_slices_Clone___api_Entry_api_Entry_
  obtain ⟨a, c, rfl, hr⟩ := id h
  rw [bin_slnil]
  refine Br_i (fun hb => ?_) fun hb => ?_
  · cases a with
    | some _ => cases hb
    | none =>
      rcases hr.2.2.2 with h0 | ⟨_, _, h0, _⟩
      · have hl0 : l = [] := by
          cases l with
          | nil => rfl
          | cons x l => rw [fl_cons] at h0; have := SEntry.len x; rw [(List.append_eq_nil_iff.1 h0).1] at this; cases this
        subst hl0
        exact hR _ _ ⟨SEntry.owns_nil _ _, Ext.refl _⟩
      · cases h0
  · refine SEntry.row_lit0 fun v1 w1 x1 ho1 hs1 => ?_
    refine SEntry.row_apps ho1 (Sl.ext h x1) (by simp; omega) (by omega) fun v2 w2 ho2 m2 => ?_
    refine hR _ _ ⟨ho2, ?_⟩
    exact ((Mod.of_ext x1 : Mod (w.heap.size ≤ ·) w w1).trans (m2.mono fun k _ hk => (Own.block ho1 hk).1)).new
namespace Rep
noncomputable def made (L : Lg) (f l s o : Int) : Rpt :=
  let es := (L.ents.take l.toNat).drop (f.toNat - 1)
  let b := carry (begin L.veh) (L.ents.take (f.toNat - 1))
  let r : Rpt := ⟨L.veh, f, es, b, carry b es, ⟨0, 0⟩⟩
  { r with sig := (Sig.signV s o (msg r)).1 }
def Rpt.zero : Rpt := ⟨0, 0, [], 0, 0, ⟨0, 0⟩⟩
def mkOk (L : Lg) (f l s o : Int) : Prop := L.valid = true ∧ 1 ≤ f ∧ f ≤ l ∧ l ≤ L.ents.length ∧ Sig.inQ 1 s = true ∧ Sig.inQ 1 o = true
noncomputable instance (L : Lg) (f l s o : Int) : Decidable (mkOk L f l s o) := by unfold mkOk; infer_instance
noncomputable def makeV (L : Lg) (f l s o : Int) : Rpt × Int := if mkOk L f l s o then (made L f l s o, 0) else (Rpt.zero, 1)
end Rep
def MakeQ (L : Rep.Lg) (f l s o : Int) (w : World) (v : Value) (w' : World) : Prop := ∃ g : SReport, v = .tuple #[.agg g.cells.toArray, .int .i64 (Rep.makeV L f l s o).2] ∧ RepIs w' g (Rep.makeV L f l s o).1 ∧ Ext w w' ∧ ∃ bh, SEntry.Owns bh w' g.ents.val (Rep.makeV L f l s o).1.ents
theorem RepIs.zero (w : World) : RepIs w SReport.zero Rep.Rpt.zero := ⟨rfl, rfl, SEntry.row_nil _, rfl, rfl, rfl⟩
theorem new_norep : Tryd.prog.built 51 [] = some SReport.zero.cells.toArray := by kernel_rfl
theorem new_rep (v f : Int) (d : Hdr) (b : BitVec 64) : Tryd.prog.built 51 [(0, .int .i64 v), (1, .int .i64 f), (2, d.val), (3, u64v b)] = some (SReport.mk v f d b 0 ⟨0, 0⟩).cells.toArray := by kernel_rfl
theorem new_rep2 (v f : Int) : Tryd.prog.built 51 [(0, .int .i64 v), (1, .int .i64 f)] = some (SReport.mk v f ⟨none, 0, 0⟩ 0 0 ⟨0, 0⟩).cells.toArray := by kernel_rfl
/-- What Make gives out. -/
theorem make_out {bh : Nat} {L : Rep.Lg} {f l s o : Int} {w0 w : World} {b : Nat} {g : SReport} {r : Rep.Rpt} {e : Int} {R : Ending → World → Prop} (hR : ∀ v w', MakeQ L f l s o w0 v w' → R (.returned v) w') (hx : Mod (w0.heap.size ≤ ·) w0 w) (hb : w0.heap.size ≤ b) (hat : At w b (.cells SReport.zero.cells.toArray 51 (0, 0)))
    (hg : g.veh = r.veh ∧ g.first = r.first ∧ SEntry.Owns bh w g.ents.val r.ents ∧ g.before = r.before ∧ g.chain = r.chain ∧ g.sig = r.sig) (hv : Rep.makeV L f l s o = (r, e)) :
    DoU Tryd.prog (Instr.storeAt 51 (.pointer (some ⟨b, 0, none⟩)) (.agg g.cells.toArray)) w (fun _ w2 => Res Tryd.prog [.cell (.pointer (some ⟨b, 0, none⟩)) 51, .tmp (.int .i64 e)] w2 R) (Pan R) := by
  refine SReport.set (r := SReport.zero) (s := g) hat fun w5 m5 h5 _ => ?_
  have hvv : (loadVar 51 ⟨b, 0, none⟩).run Tryd.prog w5 = .ok (.agg g.cells.toArray) w5 := loadVar_agg Ty.SReport_agg Ty.SReport_size (xs := g.cells) rfl (has_of_at h5)
  refine res_i (rv_cell hvv (rv_tmp (rv_nil w5))) ?_
  have hown := Own.mod hg.2.2.1 m5 (Own.off_at hg.2.2.1 hat (by decide))
  refine hR _ _ ⟨g, by rw [hv]; rfl, ?_, (hx.trans (m5.mono fun k _ h => by omega)).new, bh, by rw [hv]; exact hown⟩
  rw [hv]
  exact ⟨hg.1, hg.2.1, Sl.of_owns hown, hg.2.2.2⟩
theorem made_ok {L : Rep.Lg} (hok : LogOk L) {f : Int} (hf : I64 f) {l : Int} {b c : BitVec 64} (hlen : L.ents.length < 1000000) : RepOk ⟨L.veh, f, (L.ents.take l.toNat).drop (f.toNat - 1), b, c, ⟨0, 0⟩⟩ := by
  refine ⟨hok.1, hf, fun e he => hok.2.2 e (List.mem_of_mem_take (List.mem_of_mem_drop he)), ⟨by show I64 0; unfold I64; decide, by show I64 0; unfold I64; decide⟩, ?_⟩
  simp only [List.length_drop, List.length_take]; omega
theorem sub1_wrap {f : Int} (hf : I64 f) {n : Nat} (hn : n < 1000000) : (0 ≤ IntKind.i64.wrap (f - 1) ∧ IntKind.i64.wrap (f - 1) ≤ n) ↔ (1 ≤ f ∧ f ≤ n + 1) := by
  unfold I64 at hf
  by_cases h : f = -9223372036854775808
  · subst h
    rw [show IntKind.i64.wrap (-9223372036854775808 - 1) = 9223372036854775807 from rfl]
    omega
  · rw [i64_wrap (by omega) (by omega)]; omega
theorem Make_ret {g0 : SLog} {L : Rep.Lg} {f l s o : Int} (hok : LogOk L) (hf : I64 f) (hlen : L.ents.length < 1000000) (w : World) (h : LogIs w g0 L) (ht : Tab w) : Ret Tryd.prog 35 #[.agg g0.cells.toArray, .int .i64 f, .int .i64 l, .int .i64 s, .int .i64 o] w (MakeQ L f l s o w) := by
  refine ret_of (fun _ _ => sh_report_Make_ok _ _ _ _ _) fun R hR => ?_
  unfold sh_report_Make
  refine box_i fun g w1 x1 hat hg _ => ?_
  refine alloc_i Ty.SReport_zero fun b w2 x2 hatb hb _ => ?_
  have hat2 := hat.ext x2
  have x02 := x1.trans x2
  rw [SLog.g_all (has_of_at hat2), bin_sub]
  refine callF_ret (Chain_ret hok w2 (h.ext x02) (ht.ext x02)) ?_
  rintro _ w3 ⟨rfl, x3⟩
  have x03 := x02.trans x3
  rw [ext2_0, ext2_1]
  have hz1 := x1.size
  have hatb3 := hatb.ext x3
  have hat3 := hat2.ext x3
  have h3 := h.ext x03
  have hle := h.2.2.le
  have hwf := sub1_wrap hf hlen
  refine join0 (fun W => W = w3 ∧ L.valid = true ∧ 1 ≤ f ∧ f ≤ l ∧ l ≤ L.ents.length) ?_ fun K hK => ?_
  · rintro _ W ⟨rfl, hval, h1f, hfl, hll⟩
    obtain ⟨n, rfl⟩ : ∃ n : Nat, f = n := ⟨f.toNat, by omega⟩
    obtain ⟨m, rfl⟩ : ∃ m : Nat, l = m := ⟨l.toNat, by omega⟩
    have ew : IntKind.i64.wrap ((n : Int) - 1) = ((n - 1 : Nat) : Int) := by rw [i64_wrap (by omega) (by omega)]; omega
    rw [ew]
    have ec : (Rep.chainV L ((n - 1 : Nat) : Int)).1 = Rep.carry (Rep.begin L.veh) (L.ents.take (n - 1)) := by
      rw [Rep.chainV, if_pos ⟨hval, by omega, by omega⟩]; rfl
    rw [ec]
    obtain ⟨v', hv', hsl⟩ := ents_part h.2.2 (show n - 1 ≤ m by omega) (show m ≤ L.ents.length by omega)
    refine drawRX fun w4 x4 hs4 => ?_
    have hat4 := hat3.ext x4
    have hg4 : ∀ W, Ext w4 W → Has W g 0 g0.cells := fun W x => has_of_at (hat4.ext x)
    have hes : ((L.ents.take m).drop (n - 1)).length < 100000000 := by simp only [List.length_drop, List.length_take]; omega
    refine det_rx _ (fun w5 x5 K => Ty.SLog_f0) ?_
    refine det_rx (.int .i64 g0.veh) (fun w5 x5 K => load_cell Ty.int_agg (has_at (hg4 w5 x5) (d := 0) rfl rfl)) ?_
    refine det_rx _ (fun w5 x5 K => Ty.SLog_f2) ?_
    refine det_rx g0.ents.val (fun w5 x5 K => load_cell Ty.ents_agg (has_at (hg4 w5 x5) (d := 2) rfl rfl)) ?_
    refine det_rx (.int .i64 ((n - 1 : Nat) : Int)) (fun w5 x5 K => by rw [bin_sub, ew]) ?_
    refine det_rx v' (fun w5 x5 K => hsl w5 K _) ?_
    refine thr_x (fun vs W => ∃ d : Hdr, vs = [d.val, .agg (SReport.mk g0.veh n d (Rep.carry (Rep.begin L.veh) (L.ents.take (n - 1))) 0 ⟨0, 0⟩).cells.toArray] ∧ SEntry.Owns w4.heap.size W d.val ((L.ents.take m).drop (n - 1))) ?_ ?_
    · refine nd_x (fun v W => SEntry.Owns w4.heap.size W v ((L.ents.take m).drop (n - 1))) (fun v a b hs hx => Own.ext hs hx) (fun w5 x5 _ => ?_) fun v1 => ?_
      · refine callF_ret (Clone_ret w5 (Sl.ext hv' ((x03.trans x4).trans x5)) hes) ?_
        rintro v6 w6 ⟨h6, x6⟩
        exact ⟨x6, Own.mono h6 x5.size⟩
      refine nd_x (fun v W => ∃ d : Hdr, v1 = d.val ∧ v = .agg (SReport.mk g0.veh n d (Rep.carry (Rep.begin L.veh) (L.ents.take (n - 1))) 0 ⟨0, 0⟩).cells.toArray ∧ SEntry.Owns w4.heap.size W v1 ((L.ents.take m).drop (n - 1))) (fun v a b hs hx => by obtain ⟨d, e1, e2, e3⟩ := hs; exact ⟨d, e1, e2, Own.ext e3 hx⟩) (fun w5 x5 hown => ?_) fun v2 => ?_
      · obtain ⟨d, rfl⟩ := Hdr.of_sl (Sl.of_owns hown)
        rw [build_i (new_rep _ _ d _)]
        exact ⟨Ext.refl _, d, rfl, rfl, hown⟩
      · rintro w5 x5 ⟨d, rfl, rfl, hown⟩
        exact ⟨d, rfl, hown⟩
    refine thr_x (fun vs W => ∃ k, vs = [.pointer (some ⟨k, 0, none⟩)] ∧ At W k (.cells SReport.zero.cells.toArray 51 (0, 0)) ∧ w4.heap.size ≤ k) ?_ ?_
    · refine nd_x (fun v W => ∃ k, v = .pointer (some ⟨k, 0, none⟩) ∧ At W k (.cells SReport.zero.cells.toArray 51 (0, 0)) ∧ w4.heap.size ≤ k) (fun v a b hs hx => by obtain ⟨k, e1, e2, e3⟩ := hs; exact ⟨k, e1, e2.ext hx, e3⟩) (fun w5 x5 _ => ?_) fun v1 => ?_
      · refine alloc_i Ty.SReport_zero fun k w6 x6 hatk hk _ => ?_
        exact ⟨x6, k, rfl, hatk, by have := x5.size; omega⟩
      · rintro w5 x5 ⟨k, rfl, h5, h6⟩
        exact ⟨k, rfl, h5, h6⟩
    rintro hh w5 x5 ⟨_, ⟨_, d, e1, hown⟩, k, e2, hatk, hk⟩
    simp only [List.cons.injEq, and_true] at e1 e2
    rw [e1.2, e2]
    have x05 := (x03.trans x4).trans x5
    have hz5 := x03.size
    have hz4 := x4.size
    have hbl := hatb3.lt
    have hatb5 := (hatb3.ext x4).ext x5
    rw [h.1]
    refine SReport.set (r := SReport.zero) (s := ⟨L.veh, n, d, Rep.carry (Rep.begin L.veh) (L.ents.take (n - 1)), 0, ⟨0, 0⟩⟩) hatk fun w6 m6 hatk6 _ => ?_
    have hown6 := Own.mod hown m6 (Own.off_at hown hatk (by decide))
    have M6 : Mod (w.heap.size ≤ ·) w w6 := (Mod.of_ext x05 : Mod (w.heap.size ≤ ·) w w5).trans (m6.mono fun j _ hj => by omega)
    rw [SReport.g_ents (has_of_at hatk6)]
    have hoks : ∀ e ∈ (L.ents.take m).drop (n - 1), e.Ok := fun e he => hok.2.2 e (List.mem_of_mem_take (List.mem_of_mem_drop he))
    refine callF_ret (carry_ret _ hoks w6 (Sl.of_owns hown6) (ht.ext M6.new)) ?_
    rintro _ w7 ⟨rfl, x7⟩
    refine SReport.s_chain (hatk6.ext x7) fun w8 m8 hatk8 _ => ?_
    have hown7 := Own.ext hown6 x7
    have hown8 := Own.mod hown7 m8 (Own.off_at hown7 (hatk6.ext x7) (by decide))
    have M8 : Mod (w.heap.size ≤ ·) w w8 := (M6.trans (Mod.of_ext x7)).trans (m8.mono fun j _ hj => by omega)
    rw [SReport.g_all (has_of_at hatk8)]
    have hro := made_ok hok hf (l := (m : Int)) (b := Rep.carry (Rep.begin L.veh) (L.ents.take (n - 1))) (c := Rep.carry (Rep.carry (Rep.begin L.veh) (L.ents.take (n - 1))) ((L.ents.take m).drop (n - 1))) hlen
    refine callF_ret (message_ret (r := ⟨L.veh, n, (L.ents.take (m : Int).toNat).drop ((n : Int).toNat - 1), Rep.carry (Rep.begin L.veh) (L.ents.take (n - 1)), Rep.carry (Rep.carry (Rep.begin L.veh) (L.ents.take (n - 1))) ((L.ents.take m).drop (n - 1)), ⟨0, 0⟩⟩) w8 ⟨rfl, rfl, Sl.of_owns hown8, rfl, rfl, rfl⟩) ?_
    rintro vm w9 ⟨hm9, x9⟩
    refine callF_ret (Sign_ret (msg_ok hro) w9 hm9 (ht.ext (M8.new.trans x9))) ?_
    rintro _ w10 ⟨rfl, x10⟩
    rw [ext2_0, ext2_1]
    have M10 : Mod (w.heap.size ≤ ·) w w10 := M8.trans (Mod.of_ext (x9.trans x10))
    refine alloc_i Ty.SSig_zero fun q w11 x11 hatq hq _ => ?_
    refine SSig.set (r := SSig.zero) hatq fun w12 m12 hatq12 _ => ?_
    have hz10 := M10.size
    have M12 : Mod (w.heap.size ≤ ·) w w12 := (M10.trans (Mod.of_ext x11)).trans (m12.mono fun j _ hj => by omega)
    have xx11 : Ext w8 w11 := (x9.trans x10).trans x11
    have hatk11 := hatk8.ext xx11
    have hlk := ((hatk8.ext x9).ext x10).lt
    have hatk12 := hatk11.mod m12 (by omega)
    have hown11 := Own.ext hown8 xx11
    have hown12 := Own.mod hown11 m12 (Own.off_at hown11 (hatq) (by decide))
    have hbw : b < w5.heap.size := hatb5.lt
    have hatb12 : At w12 b (.cells SReport.zero.cells.toArray 51 (0, 0)) := by
      have g6 := hatb5.mod m6 (by omega)
      have g8 := (g6.ext x7).mod m8 (by omega)
      have g10 := (g8.ext x9).ext x10
      have := g10.lt
      exact (g10.ext x11).mod m12 (by omega)
    rw [bin_neq]
    have hsg : ∀ (b' c' : BitVec 64) es, Rep.msg ⟨L.veh, n, es, b', c', ⟨0, 0⟩⟩ = Rep.msg ⟨L.veh, n, es, b', c', ⟨0, 0⟩⟩ := fun _ _ _ => rfl
    by_cases hs : Sig.inQ 1 s = true ∧ Sig.inQ 1 o = true
    · have e0 : ∀ mm, (Sig.signV s o mm).2 = 0 := fun mm => by rw [Sig.signV, if_pos hs]
      rw [e0]
      refine br_f ?_
      rw [SSig.g_all (has_of_at hatq12)]
      refine SReport.s_sig hatk12 fun w13 m13 hatk13 _ => ?_
      have hown13 := Own.mod hown12 m13 (Own.off_at hown12 hatk12 (by decide))
      rw [SReport.g_all (has_of_at hatk13)]
      refine make_out (e := 0) (r := Rep.made L n m s o) hR (M12.trans (m13.mono fun j _ hj => by omega)) (by omega) (hatb12.mod m13 (by omega)) ⟨rfl, rfl, hown13, rfl, rfl, rfl⟩ ?_
      rw [Rep.makeV, if_pos ⟨hval, h1f, hfl, hll, hs⟩]
    · have e0 : ∀ mm, (Sig.signV s o mm).2 = 1 := fun mm => by rw [Sig.signV, if_neg hs]
      rw [e0]
      refine br_t ?_
      rw [build_i new_norep]
      refine make_out (bh := 0) (e := 1) (r := Rep.Rpt.zero) hR M12 (by omega) hatb12 ⟨rfl, rfl, SEntry.owns_nil _ _, rfl, rfl, rfl⟩ ?_
      rw [Rep.makeV, if_neg]
      rintro ⟨_, _, _, _, hh2⟩
      exact hs hh2
  · have bad : ¬ (L.valid = true ∧ 1 ≤ f ∧ f ≤ l ∧ l ≤ L.ents.length) → ∀ hh : Value, DoV Tryd.prog (Instr.build 51 #[]) w3 (fun t w17 => DoU Tryd.prog (Instr.storeAt 51 (.pointer (some ⟨b, 0, none⟩)) t) w17 (fun _ w18 => Res Tryd.prog [.cell (.pointer (some ⟨b, 0, none⟩)) 51, .tmp (.int .i64 1)] w18 R) (Pan R)) (Pan R) := fun hn _ => by
      rw [build_i new_norep]
      refine make_out (bh := 0) (r := Rep.Rpt.zero) hR (Mod.of_ext x03) (by omega) hatb3 ⟨rfl, rfl, SEntry.owns_nil _ _, rfl, rfl, rfl⟩ ?_
      rw [Rep.makeV, if_neg]
      rintro ⟨a1, a2, a3, a4, _⟩
      exact hn ⟨a1, a2, a3, a4⟩
    refine join_in fun K2 hK1 => ?_
    rw [bin_neq]
    by_cases hc : L.valid = true ∧ 0 ≤ IntKind.i64.wrap (f - 1) ∧ IntKind.i64.wrap (f - 1) ≤ L.ents.length
    · have e2 : (Rep.chainV L (IntKind.i64.wrap (f - 1))).2 = 0 := by rw [Rep.chainV, if_pos hc]
      have hc2 := hwf.1 hc.2
      rw [e2]
      refine Gd_i (fun hb1 => ?_) fun hb1 => by cases hb1
      rw [bin_gtr]
      refine Gd_i (fun hb2 => ?_) fun hb2 => leaf1 hK1 fun h hh => by rw [hh]; exact br_t (bad (by rintro ⟨_, _, e, _⟩; have := dec_t hb2; omega) undef)
      rw [SLog.g_ents (has_of_at hat3), SEntry.row_len h3.2.2, bin_gtr]
      refine leaf1 hK1 fun h hh => ?_
      rw [hh]
      refine Br_i (fun hb3 => bad (by rintro ⟨_, _, _, e⟩; have := dec_t hb3; omega) undef) fun hb3 => hK _ ⟨rfl, hc.1, hc2.1, ?_, ?_⟩
      · have := dec_f hb2; omega
      · have := dec_f hb3; omega
    · have e2 : (Rep.chainV L (IntKind.i64.wrap (f - 1))).2 = 1 := by rw [Rep.chainV, if_neg hc]
      rw [e2]
      refine Gd_i (fun hb1 => by cases hb1) fun hb1 => leaf1 hK1 fun h hh => by
        rw [hh]
        exact br_t (bad (by rintro ⟨a1, a2, a3, a4⟩; exact hc ⟨a1, hwf.2 ⟨a2, by omega⟩⟩) undef)
end Go.Proofs.YtjinhojlnaplaaaDoor
/-! ## RepF -/
namespace Go.Proofs.YtjinhojlnaplaaaDoor
set_option maxRecDepth 100000
set_option maxHeartbeats 8000000
open Sh Go.RowKit
theorem refMake_ret {g0 : SLog} {L : Rep.Lg} {f l s o : Int} (hok : LogOk L) (hf : I64 f) (hlen : L.ents.length < 1000000) (w : World) (h : LogIs w g0 L) : Ret Tryd.prog 36 #[.agg g0.cells.toArray, .int .i64 f, .int .i64 l, .int .i64 s, .int .i64 o] w (MakeQ L f l s o w) := by
  refine ret_of (fun _ _ => sh_landfallref24_Make_ok _ _ _ _ _) fun R hR => ?_
  unfold sh_landfallref24_Make
  refine box_i fun g w1 x1 hat hg _ => ?_
  refine alloc_i Ty.SReport_zero fun b w2 x2 hatb hb _ => ?_
  have hat2 := hat.ext x2
  have x02 := x1.trans x2
  have hz1 := x1.size
  have hle := h.2.2.le
  have bad : ∀ W, Ext w2 W → ¬ Rep.mkOk L f l s o → DoV Tryd.prog (Instr.build 51 #[]) W (fun t w17 => DoU Tryd.prog (Instr.storeAt 51 (.pointer (some ⟨b, 0, none⟩)) t) w17 (fun _ w18 => Res Tryd.prog [.cell (.pointer (some ⟨b, 0, none⟩)) 51, .tmp (.int .i64 1)] w18 R) (Pan R)) (Pan R) := fun W xW hn => by
    rw [build_i new_norep]
    refine make_out (bh := 0) (r := Rep.Rpt.zero) hR (Mod.of_ext (x02.trans xW)) (by omega) (hatb.ext xW) ⟨rfl, rfl, SEntry.owns_nil _ _, rfl, rfl, rfl⟩ ?_
    rw [Rep.makeV, if_neg hn]
  refine join0 (fun W => Ext w2 W ∧ Rep.mkOk L f l s o) ?_ fun K hK => ?_
  · rintro _ W ⟨xW, hmk⟩
    obtain ⟨hval, h1f, hfl, hll, hs⟩ := id hmk
    obtain ⟨n, rfl⟩ : ∃ n : Nat, f = n := ⟨f.toNat, by omega⟩
    obtain ⟨m, rfl⟩ : ∃ m : Nat, l = m := ⟨l.toNat, by omega⟩
    have ew : IntKind.i64.wrap ((n : Int) - 1) = ((n - 1 : Nat) : Int) := by rw [i64_wrap (by omega) (by omega)]; omega
    obtain ⟨v', hv', hsl⟩ := ents_part h.2.2 (show n - 1 ≤ m by omega) (show m ≤ L.ents.length by omega)
    obtain ⟨v'', hv'', hsl2⟩ := ents_upto h.2.2 (show n - 1 ≤ L.ents.length by omega)
    have hgg : ∀ W2, Ext w2 W2 → Has W2 g 0 g0.cells := fun W2 x => has_of_at (hat2.ext x)
    rw [SLog.g_veh (hgg W xW), build_i (new_rep2 _ _), h.1]
    refine alloc_i Ty.SReport_zero fun k w3 x3 hatk hk _ => ?_
    have hat3 := (hat2.ext xW).ext x3
    have hatb3 := (hatb.ext xW).ext x3
    have hbk : b < k := by have := (hatb.ext xW).lt; omega
    have hgk : g < k := by have := (hat2.ext xW).lt; omega
    have hzW := xW.size
    have hz2 := x2.size
    have X3 := (x02.trans xW).trans x3
    refine SReport.set (r := SReport.zero) (s := ⟨L.veh, n, ⟨none, 0, 0⟩, 0, 0, ⟨0, 0⟩⟩) hatk fun w4 m4 hatk4 _ => ?_
    have M4 : Mod (w.heap.size ≤ ·) w w4 := (Mod.of_ext X3 : Mod (w.heap.size ≤ ·) w w3).trans (m4.mono fun j _ hj => by omega)
    have hat4 := hat3.mod m4 (by omega)
    have hatb4 := hatb3.mod m4 (by omega)
    refine draw_ext fun w5 x5 => ?_
    have hg5 : ∀ W, Ext w5 W → Has W g 0 g0.cells := fun W x => has_of_at ((hat4.ext x5).ext x)
    refine det_read _ (fun w6 x6 K => Ty.SReport_f2) ?_
    refine det_read (.slice none 0 0) (fun w6 x6 K => load_cell Ty.ents_agg (has_at (has_of_at ((hatk4.ext x5).ext x6)) (d := 2) rfl rfl)) ?_
    refine det_read _ (fun w6 x6 K => Ty.SLog_f2) ?_
    refine det_read g0.ents.val (fun w6 x6 K => load_cell Ty.ents_agg (has_at (hg5 w6 x6) (d := 2) rfl rfl)) ?_
    refine det_read (.int .i64 ((n - 1 : Nat) : Int)) (fun w6 x6 K => by rw [bin_sub, ew]) ?_
    refine det_read v' (fun w6 x6 K => hsl w6 K _) ?_
    intro w6 x6 _
    have M6 : Mod (w.heap.size ≤ ·) w w6 := M4.trans (Mod.of_ext (x5.trans x6))
    have hatk6 := hatk4.ext (x5.trans x6)
    have hatb6 := hatb4.ext (x5.trans x6)
    have hat6 := hat4.ext (x5.trans x6)
    have hes : (([] : List SEntry).length + ((L.ents.take m).drop (n - 1)).length) < 100000000000 := by simp only [List.length_drop, List.length_take, List.length_nil]; omega
    refine SEntry.row_apps (SEntry.owns_nil w6.heap.size _) (Sl.ext hv' M6.new) hes (by omega) fun v7 w7 hown m7 => ?_
    rw [List.nil_append] at hown
    have x7 : Ext w6 w7 := m7.ext fun j _ hj => by simp [Value.ownBlock] at hj
    obtain ⟨d, rfl⟩ := Hdr.of_sl (Sl.of_owns hown)
    refine SReport.s_ents (hatk6.ext x7) fun w8 m8 hatk8 _ => ?_
    have hown8 := Own.mod hown m8 (Own.off_at hown (hatk6.ext x7) (by decide))
    have M8 : Mod (w.heap.size ≤ ·) w w8 := (M6.trans (Mod.of_ext x7)).trans (m8.mono fun j _ hj => by omega)
    have hatb8 := (hatb6.ext x7).mod m8 (by omega)
    have hat8 := (hat6.ext x7).mod m8 (by omega)
    refine draw_ext fun w9 x9 => ?_
    have hg9 : ∀ W, Ext w9 W → Has W g 0 g0.cells := fun W x => has_of_at ((hat8.ext x9).ext x)
    refine det_read _ (fun w10 x10 K => Ty.SLog_f0) ?_
    refine det_read (.int .i64 g0.veh) (fun w10 x10 K => load_cell Ty.int_agg (has_at (hg9 w10 x10) (d := 0) rfl rfl)) ?_
    refine det_ret _ (fun w10 x10 => Begin_ret (by rw [h.1]; exact hok.1) w10) ?_
    refine det_read _ (fun w10 x10 K => Ty.SLog_f2) ?_
    refine det_read g0.ents.val (fun w10 x10 K => load_cell Ty.ents_agg (has_at (hg9 w10 x10) (d := 2) rfl rfl)) ?_
    refine det_read (.int .i64 ((n - 1 : Nat) : Int)) (fun w10 x10 K => by rw [bin_sub, ew]) ?_
    refine det_read v'' (fun w10 x10 K => hsl2 w10 K _) ?_
    intro w10 x10 _
    have M10 : Mod (w.heap.size ≤ ·) w w10 := M8.trans (Mod.of_ext (x9.trans x10))
    refine callF_ret (Carry_ret _ (fun e he => hok.2.2 e (List.mem_of_mem_take he)) w10 (Sl.ext hv'' M10.new)) ?_
    rintro _ w11 ⟨rfl, x11⟩
    have X11 := (x9.trans x10).trans x11
    rw [h.1]
    refine SReport.s_before (hatk8.ext X11) fun w12 m12 hatk12 _ => ?_
    have hown11 := Own.ext hown8 X11
    have hown12 := Own.mod hown11 m12 (Own.off_at hown11 (hatk8.ext X11) (by decide))
    have M12 : Mod (w.heap.size ≤ ·) w w12 := (M8.trans (Mod.of_ext X11)).trans (m12.mono fun j _ hj => by omega)
    have hatb12 := (hatb8.ext X11).mod m12 (by omega)
    rw [SReport.g_before (has_of_at hatk12), SReport.g_ents (has_of_at hatk12)]
    have hoks : ∀ e ∈ (L.ents.take m).drop (n - 1), e.Ok := fun e he => hok.2.2 e (List.mem_of_mem_take (List.mem_of_mem_drop he))
    refine callF_ret (Carry_ret _ hoks w12 (Sl.of_owns hown12)) ?_
    rintro _ w13 ⟨rfl, x13⟩
    refine SReport.s_chain (hatk12.ext x13) fun w14 m14 hatk14 _ => ?_
    have hown13 := Own.ext hown12 x13
    have hown14 := Own.mod hown13 m14 (Own.off_at hown13 (hatk12.ext x13) (by decide))
    have M14 : Mod (w.heap.size ≤ ·) w w14 := (M12.trans (Mod.of_ext x13)).trans (m14.mono fun j _ hj => by omega)
    have hatb14 := (hatb12.ext x13).mod m14 (by omega)
    rw [SReport.g_all (has_of_at hatk14)]
    have hro := made_ok hok hf (l := (m : Int)) (b := Rep.carry (Rep.begin L.veh) (L.ents.take (n - 1))) (c := Rep.carry (Rep.carry (Rep.begin L.veh) (L.ents.take (n - 1))) ((L.ents.take m).drop (n - 1))) hlen
    refine callF_ret (refMessage_ret (r := ⟨L.veh, n, (L.ents.take (m : Int).toNat).drop ((n : Int).toNat - 1), Rep.carry (Rep.begin L.veh) (L.ents.take (n - 1)), Rep.carry (Rep.carry (Rep.begin L.veh) (L.ents.take (n - 1))) ((L.ents.take m).drop (n - 1)), ⟨0, 0⟩⟩) w14 ⟨rfl, rfl, Sl.of_owns hown14, rfl, rfl, rfl⟩) ?_
    rintro vm w15 ⟨hm15, x15⟩
    refine callF_ret (refSign_ret ⟨(msg_ok hro).1, by simp [Rep.msg]⟩ w15 hm15) ?_
    rintro _ w16 ⟨rfl, x16⟩
    rw [ext2_0, ext2_1]
    have M16 : Mod (w.heap.size ≤ ·) w w16 := M14.trans (Mod.of_ext (x15.trans x16))
    refine alloc_i Ty.SSig_zero fun q w17 x17 hatq hq _ => ?_
    refine SSig.set (r := SSig.zero) hatq fun w18 m18 hatq18 _ => ?_
    have hz16 := M16.size
    have M18 : Mod (w.heap.size ≤ ·) w w18 := (M16.trans (Mod.of_ext x17)).trans (m18.mono fun j _ hj => by omega)
    have xx17 : Ext w14 w17 := (x15.trans x16).trans x17
    have hlk := (hatk14.ext (x15.trans x16)).lt
    have hlb := (hatb14.ext (x15.trans x16)).lt
    have hatk18 := (hatk14.ext xx17).mod m18 (by omega)
    have hatb18 := (hatb14.ext xx17).mod m18 (by omega)
    have hown17 := Own.ext hown14 xx17
    have hown18 := Own.mod hown17 m18 (Own.off_at hown17 hatq (by decide))
    rw [SSig.g_all (has_of_at hatq18)]
    refine SReport.s_sig hatk18 fun w19 m19 hatk19 _ => ?_
    have hown19 := Own.mod hown18 m19 (Own.off_at hown18 hatk18 (by decide))
    rw [SReport.g_all (has_of_at hatk19)]
    refine make_out (e := 0) (r := Rep.made L n m s o) hR (M18.trans (m19.mono fun j _ hj => by omega)) (by omega) (hatb18.mod m19 (by omega)) ⟨rfl, rfl, hown19, rfl, rfl, rfl⟩ ?_
    rw [Rep.makeV, if_pos hmk]
  · refine join_in fun K2 hK1 => ?_
    rw [SLog.g_all (has_of_at hat2)]
    refine callF_ret ((h.ext x02).refValid_ret) ?_
    rintro _ w3 ⟨rfl, x3⟩
    rw [un_not]
    refine Gd_i (fun hb => ?_) fun hb => leaf1 hK1 fun h hh => by rw [hh]; exact br_t (bad w3 x3 fun e => by rw [e.1] at hb; cases hb)
    have hb : L.valid = true := by simpa using hb
    rw [bin_lss]
    refine Gd_i (fun hb1 => ?_) fun hb1 => leaf1 hK1 fun h hh => by rw [hh]; exact br_t (bad w3 x3 fun e => by have := dec_t hb1; have := e.2.1; omega)
    rw [bin_gtr]
    refine Gd_i (fun hb2 => ?_) fun hb2 => leaf1 hK1 fun h hh => by rw [hh]; exact br_t (bad w3 x3 fun e => by have := dec_t hb2; have := e.2.2.1; omega)
    rw [SLog.g_ents (has_of_at (hat2.ext x3)), SEntry.row_len (Sl.ext h.2.2 (x02.trans x3)), bin_gtr]
    refine Gd_i (fun hb3 => ?_) fun hb3 => leaf1 hK1 fun h hh => by rw [hh]; exact br_t (bad w3 x3 fun e => by have := dec_t hb3; have := e.2.2.2.1; omega)
    refine callF_same (Secret_ret s w3) ?_
    rw [un_not]
    refine Gd_i (fun hb4 => ?_) fun hb4 => leaf1 hK1 fun h hh => by rw [hh]; exact br_t (bad w3 x3 fun e => by rw [e.2.2.2.2.1] at hb4; cases hb4)
    refine callF_same (Secret_ret o w3) ?_
    rw [un_not]
    refine leaf1 hK1 fun h hh => ?_
    rw [hh]
    refine Br_i (fun hb5 => bad w3 x3 fun e => by rw [e.2.2.2.2.2] at hb5; cases hb5) fun hb5 => hK _ ⟨x3, hb, ?_, ?_, ?_, by simpa using hb4, by simpa using hb5⟩
    · have := dec_f hb1; omega
    · have := dec_f hb2; omega
    · have := dec_f hb3; omega
/-! ### comparisons -/
theorem SameEntries_ret {v u : Value} {l m : List SEntry} (w : World) (hv : SEntry.Row w v l) (hu : SEntry.Row w u m) : Ret Tryd.prog 47 #[v, u] w fun r w' => r = .bool (decide (l = m)) ∧ Ext w w' := by
  refine ret_of (fun _ _ => sh_landfallref24_SameEntries_ok _ _) fun R hR => ?_
  unfold sh_landfallref24_SameEntries
  have hle := hv.le
  rw [SEntry.row_len hv, SEntry.row_len hu, bin_neq]
  refine Br_i (fun hb => hR _ _ ⟨?_, Ext.refl _⟩) fun hb => ?_
  · have hne : ¬ (l.length : Int) = m.length := by simpa using hb
    rw [decide_eq_false (by rintro rfl; exact hne rfl)]
  have heq : l.length = m.length := by have : (l.length : Int) = m.length := by simpa using hb
                                       omega
  refine loop1 (fun x W => ∃ k : Nat, k ≤ l.length ∧ x = .int .i64 k ∧ Ext w W ∧ l.take k = m.take k) (fun x _ => l.length - (intOf x).toNat) ⟨0, by omega, rfl, Ext.refl _, rfl⟩ ?_
  rintro hh _ W hx ⟨k, hk, rfl, xW, heqk⟩ K hK
  rw [SEntry.row_len (Sl.ext hv xW), hx, bin_lss]
  refine Br_i (fun hb2 => ?_) fun hb2 => ?_
  · have hlt : k < l.length := by have := dec_t hb2; omega
    obtain ⟨b1, o1, hh1, _, hix1⟩ := SEntry.row_at hv hlt
    obtain ⟨b2, o2, hh2, _, hix2⟩ := SEntry.row_at hu (show k < m.length by omega)
    refine draw_ext fun w3 x3 => ?_
    refine det_read _ (fun w4 x4 K => hix1 w4 K _) ?_
    refine det_read (.agg l[k].cells.toArray) (fun w4 x4 K => SEntry.g_all (hh1 w4 ((xW.trans x3).trans x4))) ?_
    refine det_read _ (fun w4 x4 K => hix2 w4 K _) ?_
    refine det_read (.agg m[k].cells.toArray) (fun w4 x4 K => SEntry.g_all (hh2 w4 ((xW.trans x3).trans x4))) ?_
    intro w4 x4 _
    rw [SEntry.neq]
    have x04 := (xW.trans x3).trans x4
    refine Br_i (fun hb3 => hR _ _ ⟨?_, x04⟩) fun hb3 => ?_
    · have hne : ¬ l[k] = m[k] := by simpa using hb3
      rw [decide_eq_false (by rintro rfl; exact hne rfl)]
    · have he : l[k] = m[k] := by simpa using hb3
      rw [bin_add, i64_wrap (by omega) (by omega)]
      refine hK _ _ ⟨k + 1, by omega, by simp, x04, ?_⟩ (by simp [intOf]; omega)
      rw [List.take_succ_eq_append_getElem hlt, List.take_succ_eq_append_getElem (show k < m.length by omega), heqk, he]
  · have hge : l.length ≤ k := by have := dec_f hb2; omega
    refine hR _ _ ⟨?_, xW⟩
    rw [List.take_of_length_le hge, List.take_of_length_le (by omega)] at heqk
    rw [heqk, decide_eq_true rfl]
noncomputable instance : DecidableEq Rep.Rpt := fun _ _ => Classical.propDecidable _
theorem Same_ret {s t : SReport} {r q : Rep.Rpt} (w : World) (hs : RepIs w s r) (ht : RepIs w t q) : Ret Tryd.prog 37 #[.agg s.cells.toArray, .agg t.cells.toArray] w fun v w' => v = .bool (decide (r = q)) ∧ Ext w w' := by
  refine ret_of (fun _ _ => sh_landfallref24_Same_ok _ _) fun R hR => ?_
  unfold sh_landfallref24_Same
  refine box_i fun g w1 x1 hat _ _ => ?_
  refine box_i fun g2 w2 x2 hat2 _ _ => ?_
  have h1 : Has w2 g 0 s.cells := has_of_at (At.ext hat x2)
  have h2 : Has w2 g2 0 t.cells := has_of_at hat2
  have x12 := x1.trans x2
  have no : ¬ r = q → R (.returned (.bool false)) w2 := fun hn => hR _ _ ⟨by rw [decide_eq_false hn], x12⟩
  rw [SReport.g_veh h1, SReport.g_veh h2, bin_eql, hs.1, ht.1]
  refine Gd_i (fun e1 => ?_) fun e1 => no fun e => by have := dec_f e1; rw [e] at this; exact this rfl
  rw [SReport.g_first h1, SReport.g_first h2, bin_eql, hs.2.1, ht.2.1]
  refine Gd_i (fun e2 => ?_) fun e2 => no fun e => by have := dec_f e2; rw [e] at this; exact this rfl
  rw [SReport.g_before h1, SReport.g_before h2, bin_eqv, hs.2.2.2.1, ht.2.2.2.1]
  refine Gd_i (fun e3 => ?_) fun e3 => no fun e => by have := dec_f e3; rw [e] at this; exact this rfl
  rw [SReport.g_chain h1, SReport.g_chain h2, bin_eqv, hs.2.2.2.2.1, ht.2.2.2.2.1]
  refine Gd_i (fun e4 => ?_) fun e4 => no fun e => by have := dec_f e4; rw [e] at this; exact this rfl
  rw [SReport.g_sig h1, SReport.g_sig h2, SSig.eql, hs.2.2.2.2.2, ht.2.2.2.2.2]
  refine Gd_i (fun e5 => ?_) fun e5 => no fun e => by have := dec_f e5; rw [e] at this; exact this rfl
  rw [SReport.g_ents h1, SReport.g_ents h2]
  refine callF_ret (SameEntries_ret w2 (Sl.ext hs.2.2.1 x12) (Sl.ext ht.2.2.1 x12)) ?_
  rintro _ w3 ⟨rfl, x3⟩
  refine hR _ _ ⟨?_, x12.trans x3⟩
  congr 1
  rw [decide_eq_decide]
  refine ⟨fun e => ?_, fun e => by rw [e]⟩
  obtain ⟨_, _, _, _, _, _⟩ := r
  obtain ⟨_, _, _, _, _, _⟩ := q
  have := dec_t e1; have := dec_t e2; have := dec_t e3; have := dec_t e4; have := dec_t e5
  simp only at *
  subst_vars; rfl
end Go.Proofs.YtjinhojlnaplaaaDoor
/-! ## RepG -/
namespace Go.Proofs.YtjinhojlnaplaaaDoor
set_option maxRecDepth 100000
set_option maxHeartbeats 4000000
open Sh Go.RowKit
namespace Rep
theorem good_iff {l : List SEntry} {f : Int} {i : Nat} : good l f i = true ↔ formed (el l i) = true ∧ (el l i).seq = IntKind.i64.wrap (f + i) ∧ (0 < i → (el l (i - 1)).time ≤ (el l i).time) := by
  simp only [good, Bool.and_eq_true, decide_eq_true_eq, Bool.or_eq_true, Bool.not_eq_true', decide_eq_false_iff_not]
  constructor
  · rintro ⟨h1, h2, h3⟩
    exact ⟨h1, h2, fun h => h3.resolve_left fun hn => hn h⟩
  · rintro ⟨h1, h2, h3⟩
    exact ⟨h1, h2, by by_cases h : 0 < i
                      · exact .inr (h3 h)
                      · exact .inl h⟩
theorem follows_iff {l : List SEntry} {f : Int} : follows l f = true ↔ l.length ≤ 2000 ∧ ∀ i, i < l.length → good l f i = true := by
  simp only [follows, Bool.and_eq_true, List.all_eq_true, List.mem_range, decide_eq_true_eq]
  exact ⟨fun ⟨h1, h2⟩ => ⟨h2, h1⟩, fun ⟨h1, h2⟩ => ⟨h2, h1⟩⟩
theorem el_part {l : List SEntry} {j k i : Nat} (h : j + i < k) : el ((l.take k).drop j) i = el l (j + i) := by
  simp only [el, List.getElem?_drop, List.getElem?_take, if_pos h]
theorem el_take {l : List SEntry} {k i : Nat} (h : i < k) : el (l.take k) i = el l i := by
  simp only [el, List.getElem?_take, if_pos h]
theorem follows_part {l : List SEntry} (h : follows l 1 = true) {j k : Nat} (hk : k ≤ l.length) : follows ((l.take k).drop j) ((j : Int) + 1) = true := by
  rw [follows_iff] at h ⊢
  have hlen : ((l.take k).drop j).length = k - j := by simp only [List.length_drop, List.length_take]; omega
  refine ⟨by omega, fun i hi => ?_⟩
  rw [hlen] at hi
  have hg := good_iff.1 (h.2 (j + i) (by omega))
  rw [good_iff, el_part (by omega)]
  refine ⟨hg.1, by rw [hg.2.1]; congr 1; omega, fun hp => ?_⟩
  rw [el_part (by omega)]
  have := hg.2.2 (by omega)
  rw [show j + (i - 1) = j + i - 1 by omega]; exact this
theorem follows_take {l : List SEntry} (h : follows l 1 = true) {k : Nat} (hk : k ≤ l.length) : follows (l.take k) 1 = true := by
  have := follows_part h (j := 0) hk
  simpa using this
theorem el_snoc {l : List SEntry} {x : SEntry} {i : Nat} (h : i < l.length) : el (l ++ [x]) i = el l i := by
  simp only [el, List.getElem?_append_left h]
theorem el_last {l : List SEntry} {x : SEntry} : el (l ++ [x]) l.length = x := by simp [el]
theorem follows_snoc {l : List SEntry} {x : SEntry} {f : Int} (hl : follows l f = true) (hn : l.length < 2000) (hf : 1 ≤ f) (hf2 : f ≤ 1000000) :
    follows (l ++ [x]) f = (formed x && (decide (x.seq = f + l.length) && (decide (l.length = 0) || decide ((el l (l.length - 1)).time ≤ x.time)))) := by
  rw [Bool.eq_iff_iff, follows_iff]
  have hl := follows_iff.1 hl
  simp only [Bool.and_eq_true, decide_eq_true_eq, Bool.or_eq_true]
  have hw : IntKind.i64.wrap (f + l.length) = f + l.length := i64_wrap (by omega) (by omega)
  constructor
  · rintro ⟨_, h⟩
    have hg := good_iff.1 (h l.length (by simp))
    rw [el_last, hw] at hg
    refine ⟨hg.1, hg.2.1, ?_⟩
    by_cases h0 : l.length = 0
    · exact .inl h0
    · right
      have := hg.2.2 (by omega)
      rwa [el_snoc (by omega)] at this
  · rintro ⟨h1, h2, h3⟩
    refine ⟨by simp; omega, fun i hi => ?_⟩
    have hi : i < l.length + 1 := by simpa using hi
    by_cases hlt : i < l.length
    · have hg := good_iff.1 (hl.2 i hlt)
      rw [good_iff, el_snoc hlt]
      exact ⟨hg.1, hg.2.1, fun hp => by rw [el_snoc (by omega)]; exact hg.2.2 hp⟩
    · have hi2 : i = l.length := by omega
      subst hi2
      rw [good_iff, el_last, hw]
      refine ⟨h1, h2, fun hp => ?_⟩
      rw [el_snoc (by omega)]
      exact h3.resolve_left (by omega)
theorem carry_append (d : BitVec 64) (a b : List SEntry) : carry d (a ++ b) = carry (carry d a) b := by simp only [carry, List.foldl_append]
theorem carry_one (d : BitVec 64) (e : SEntry) : carry d [e] = Dig.next d (eints e) := by simp only [carry, List.foldl_cons, List.foldl_nil]
theorem carry_nil (d : BitVec 64) : carry d [] = d := by simp only [carry, List.foldl_nil]
theorem take_part {l : List SEntry} {j k : Nat} (h : j ≤ k) : l.take j ++ (l.take k).drop j = l.take k := by
  have : l.take j = (l.take k).take j := by rw [List.take_take, Nat.min_eq_left h]
  rw [this, List.take_append_drop]
theorem part_part {l : List SEntry} {i j k : Nat} (hi : i ≤ j) (h : j ≤ k) : (l.take j).drop i ++ (l.take k).drop j = (l.take k).drop i := by
  have e : (l.take k).drop i = ((l.take j) ++ (l.take k).drop j).drop i := by rw [take_part h]
  rw [e]
  by_cases hl : j ≤ l.length
  · rw [List.drop_append_of_le_length (by simp; omega)]
  · have e1 : l.take j = l := List.take_of_length_le (by omega)
    have e2 : (l.take k).drop j = [] := List.drop_eq_nil_of_le (by simp; omega)
    rw [e1, e2, List.append_nil, List.append_nil]
theorem valid_id {L : Lg} (h : L.valid = true) : isID L.veh = true := by
  simp only [Lg.valid, valid, Bool.and_eq_true] at h; exact h.1
theorem valid_fol {L : Lg} (h : L.valid = true) : follows L.ents 1 = true := by
  simp only [Lg.valid, valid, Bool.and_eq_true] at h; exact h.2.2.2
theorem valid_with {L : Lg} (h : L.valid = true) (es : List SEntry) : Lg.valid ⟨L.veh, L.rs, es⟩ = follows es 1 := by
  simp only [Lg.valid, valid, Bool.and_eq_true] at h ⊢
  rw [h.1, h.2.1, h.2.2.1]; rfl
theorem chainV_ok {L : Lg} (h : L.valid = true) {n : Nat} (hn : n ≤ L.ents.length) : chainV L n = (carry (begin L.veh) (L.ents.take n), 0) := by
  rw [chainV, if_pos ⟨h, by omega, by omega⟩]; rfl
/-- Another report with a signature that was made for its message: what Check says of it. -/
theorem check_of {r : Rpt} {s o : Nat} (hr : okR r = true) (hs : r.sig = Sig.sigOf s o (msg r)) : checkV r ((Sig.pw 4 s : Nat) : Int) = (decide (carry r.before r.ents = r.chain), 0) := by
  rw [checkV, if_pos hr, hs, Sig.sign_right]; rfl
theorem made_sig {L : Lg} {f l : Int} {s o : Nat} (hs : 1 ≤ s ∧ s < Sig.Q) (ho : 1 ≤ o ∧ o < Sig.Q) : (made L f l s o).sig = Sig.sigOf s o (msg (made L f l s o)) := by
  show (Sig.signV (s : Int) (o : Int) _).1 = _
  rw [Sig.signV_of hs.1 hs.2 ho.1 ho.2]; rfl
theorem made_chain {L : Lg} {f l s o : Int} : (made L f l s o).chain = carry (made L f l s o).before (made L f l s o).ents := rfl
theorem made_okR {L : Lg} (h : L.valid = true) {n m : Nat} (hn : 1 ≤ n) (hnm : n ≤ m) (hm : m ≤ L.ents.length) {s o : Int} : okR (made L n m s o) = true := by
  have hlen : ((L.ents.take m).drop (n - 1)).length = m - (n - 1) := by simp only [List.length_drop, List.length_take]; omega
  show (isID L.veh && (decide (0 < ((L.ents.take m).drop (n - 1)).length) && follows ((L.ents.take m).drop (n - 1)) n)) = true
  rw [valid_id h, hlen, decide_eq_true (show 0 < m - (n - 1) by omega)]
  have := follows_part (valid_fol h) (j := n - 1) hm
  rw [show (((n - 1 : Nat) : Int) + 1) = n by omega] at this
  rw [this]; rfl
theorem made_right {L : Lg} (h : L.valid = true) {n m : Nat} (hn : 1 ≤ n) (hnm : n ≤ m) (hm : m ≤ L.ents.length) {s o : Nat} (hs : 1 ≤ s ∧ s < Sig.Q) (ho : 1 ≤ o ∧ o < Sig.Q) :
    checkV (made L n m s o) ((Sig.pw 4 s : Nat) : Int) = (true, 0) := by
  rw [check_of (made_okR h hn hnm hm) (made_sig hs ho), made_chain, decide_eq_true rfl]
theorem makeV_ok {L : Lg} (h : L.valid = true) {n m : Nat} (hn : 1 ≤ n) (hnm : n ≤ m) (hm : m ≤ L.ents.length) {s o : Nat} (hs : 1 ≤ s ∧ s < Sig.Q) (ho : 1 ≤ o ∧ o < Sig.Q) : makeV L n m s o = (made L n m s o, 0) := by
  rw [makeV, if_pos ⟨h, by omega, by omega, by omega, Sig.inQ_of (by omega) hs.2, Sig.inQ_of (by omega) ho.2⟩]
/-! ### another digit -/
def turned (n : Int) (b : Int) : Int := if n < 0 then n else n - n % 10 + (n % 10 + 1 + b % 9) % 10
theorem turned_div {n b : Int} (hn : 0 ≤ n) : turned n b / 10 = n / 10 ∧ turned n b % 10 ≠ n % 10 ∧ 0 ≤ turned n b := by
  unfold turned
  rw [if_neg (by omega)]
  omega
theorem turned_le {n b : Int} (h1 : -1000000000 ≤ n) (h2 : n ≤ 1000000000) : -1000000000 ≤ turned n b ∧ turned n b ≤ 1000000009 := by
  unfold turned
  split <;> omega
def ofInts (l : List Int) : SEntry := ⟨l[0]?.getD 0, l[1]?.getD 0, l[2]?.getD 0, l[3]?.getD 0, l[4]?.getD 0, l[5]?.getD 0, l[6]?.getD 0, ⟨l[7]?.getD 0, l[8]?.getD 0⟩, l[9]?.getD 0, l[10]?.getD 0, l[11]?.getD 0⟩
theorem eints_of {l : List Int} (h : l.length = 12) : eints (ofInts l) = l := by
  match l, h with
  | [_, _, _, _, _, _, _, _, _, _, _, _], _ => rfl
theorem ofInts_eints (e : SEntry) : ofInts (eints e) = e := rfl
theorem eints_len (e : SEntry) : (eints e).length = 12 := rfl
def changed (e : SEntry) (k : Nat) (b : Int) : SEntry := ofInts ((eints e).set k (turned ((eints e)[k]?.getD 0) b))
theorem changed_ints (e : SEntry) (k : Nat) (b : Int) : eints (changed e k b) = (eints e).set k (turned ((eints e)[k]?.getD 0) b) := eints_of (by simp [eints_len])
theorem changed_digits (e : SEntry) {k : Nat} (hk : k < 12) (b : Int) (d : BitVec 64) : Dig.next d (eints (changed e k b)) = Dig.next d (eints e) ↔ changed e k b = e := by
  refine ⟨fun h => ?_, fun h => by rw [h]⟩
  have hk' : k < (eints e).length := hk
  by_cases hn : (eints e)[k] < 0
  · have e1 : (eints e)[k]?.getD 0 = (eints e)[k] := by simp [hk']
    show ofInts _ = e
    rw [e1, show turned (eints e)[k] b = (eints e)[k] from if_pos hn, List.set_getElem_self]; rfl
  · exfalso
    rw [changed_ints] at h
    have e1 : (eints e)[k]?.getD 0 = (eints e)[k] := by simp [hk']
    obtain ⟨h1, h2, h3⟩ := turned_div (b := b) (show 0 ≤ (eints e)[k] by omega)
    rw [e1, List.set_eq_take_append_cons_drop, if_pos hk'] at h
    have hs : eints e = (eints e).take k ++ (eints e)[k] :: (eints e).drop (k + 1) := by
      rw [← List.drop_eq_getElem_cons hk', List.take_append_drop]
    have hneq := Dig.next_last (d := d) (p := (eints e).take k) (q := (eints e).drop (k + 1)) (n := turned (eints e)[k] b) (m := (eints e)[k]) h3 (by omega) h1 h2
    exact hneq (by rw [h]; exact congrArg _ hs)
theorem formed_small {e : SEntry} (h : formed e = true) : ∀ n ∈ eints e, -1000000000 ≤ n ∧ n ≤ 1000000000 := by
  have h : Formed e := by simpa [formed] using h
  unfold Formed at h
  intro n hn
  rw [eints, List.mem_cons, List.mem_cons, List.mem_cons, List.mem_cons, List.mem_cons, List.mem_cons, List.mem_cons, List.mem_cons, List.mem_cons, List.mem_cons, List.mem_cons, List.mem_singleton] at hn
  rcases hn with hn | hn | hn | hn | hn | hn | hn | hn | hn | hn | hn | hn <;> (rw [hn]; omega)
end Rep
end Go.Proofs.YtjinhojlnaplaaaDoor
/-! ## RepH -/
namespace Go.Proofs.YtjinhojlnaplaaaDoor
set_option maxRecDepth 100000
set_option maxHeartbeats 8000000
open Sh Go.RowKit
theorem Few_ret {s : SLog} {L : Rep.Lg} (w : World) (h : LogIs w s L) : Ret Tryd.prog 30 #[.agg s.cells.toArray] w fun r w' => (∃ b, r = .bool b ∧ (b = true → L.ents.length ≤ 40)) ∧ Ext w w' := by
  refine ret_of (fun _ _ => sh_landfallref24_Few_ok _) fun R hR => ?_
  unfold sh_landfallref24_Few
  refine box_i fun g w1 x1 hat _ _ => ?_
  rw [SLog.g_start (has_of_at hat)]
  refine callF_ret (refRegionFew_ret w1 (h.2.1.ext x1)) ?_
  rintro _ w2 ⟨⟨b, rfl, _⟩, x2⟩
  refine Gd_i (fun hb => ?_) fun hb => hR _ _ ⟨⟨_, rfl, fun h => by cases h⟩, x1.trans x2⟩
  rw [SLog.g_ents (has_of_at (At.ext hat x2)), SEntry.row_len (Sl.ext h.2.2 (x1.trans x2)), bin_leq]
  exact hR _ _ ⟨⟨_, rfl, fun h => by have := of_decide_eq_true h; omega⟩, x1.trans x2⟩
theorem usable_ret {s : SLog} {L : Rep.Lg} (w : World) (h : LogIs w s L) : Ret Tryd.prog 40 #[.agg s.cells.toArray] w fun r w' => (∃ b, r = .bool b ∧ (b = true → L.valid = true ∧ L.ents.length ≤ 40)) ∧ Ext w w' := by
  refine ret_of (fun _ _ => sh_landfalllaw24_usable_ok _) fun R hR => ?_
  unfold sh_landfalllaw24_usable
  refine box_i fun g w1 x1 hat _ _ => ?_
  rw [SLog.g_all (has_of_at hat)]
  refine callF_ret (Few_ret w1 (h.ext x1)) ?_
  rintro _ w2 ⟨⟨b, rfl, hb40⟩, x2⟩
  refine Gd_i (fun hb => ?_) fun hb => hR _ _ ⟨⟨_, rfl, fun h => by cases h⟩, x1.trans x2⟩
  rw [SLog.g_all (has_of_at (At.ext hat x2))]
  refine callF_ret ((h.ext (x1.trans x2)).refValid_ret) ?_
  rintro _ w3 ⟨rfl, x3⟩
  exact hR _ _ ⟨⟨_, rfl, fun h => ⟨h, hb40 hb⟩⟩, (x1.trans x2).trans x3⟩
def secQ (a b : Nat) (w : World) (r : Value) (w' : World) : Prop := r = .tuple #[.int .i64 (a + 1 : Nat), .int .i64 (b + 1 : Nat), .int .i64 (Sig.pw 4 (a + 1) : Nat), .bool true] ∧ Ext w w'
theorem secrets_ret {a b : Nat} (ha : a < 65536) (hb : b < 65536) (w : World) : Ret Tryd.prog 46 #[.int .u16 a, .int .u16 b] w (secQ a b w) := by
  refine ret_of (fun _ _ => sh_landfalllaw24_secrets_ok _ _) fun R hR => ?_
  unfold sh_landfalllaw24_secrets
  rw [conv_int Ty.u16 Ty.int, i64_wrap (by omega) (by omega), bin_add, i64_wrap (by omega) (by omega), conv_int Ty.u16 Ty.int, i64_wrap (by omega) (by omega), bin_add, i64_wrap (by omega) (by omega)]
  rw [show (1 : Int) + (a : Int) = ((a + 1 : Nat) : Int) by omega, show (1 : Int) + (b : Int) = ((b + 1 : Nat) : Int) by omega]
  refine callF_ret (Public_ret _ w) ?_
  rintro _ w1 ⟨rfl, x1⟩
  rw [Sig.pubV_of (by omega) (show a + 1 < Sig.Q by unfold Sig.Q; omega), ext2_0, ext2_1, bin_eql]
  exact hR _ _ ⟨rfl, x1⟩
theorem turned_ret {n b : Int} (hn : -1000000000 ≤ n ∧ n ≤ 1000000000) (hb : 0 ≤ b ∧ b < 256) (w : World) : Ret Tryd.prog 74 #[.int .i64 n, .int .u8 b] w fun r w' => r = .int .i64 (Rep.turned n b) ∧ w' = w := by
  refine ret_of (fun _ _ => sh_landfalllaw24_turned_ok _ _) fun R hR => ?_
  unfold sh_landfalllaw24_turned
  rw [bin_lss]
  refine Br_i (fun h => hR _ _ ⟨by rw [Rep.turned, if_pos (dec_t h)], rfl⟩) fun h => ?_
  have hn0 := dec_f h
  have e10 : n.tmod 10 = n % 10 := Int.tmod_eq_emod_of_nonneg (by omega)
  have e9 : b.tmod 9 = b % 9 := Int.tmod_eq_emod_of_nonneg hb.1
  have em : (n % 10 + 1 + b % 9).tmod 10 = (n % 10 + 1 + b % 9) % 10 := Int.tmod_eq_emod_of_nonneg (by omega)
  rw [bin_rem (by decide), e10, bin_sub, i64_wrap (by omega) (by omega), bin_rem (by decide), e10, bin_add, i64_wrap (by omega) (by omega), conv_int Ty.u8 Ty.int, i64_wrap (by omega) (by omega), bin_rem (by decide), e9, bin_add, i64_wrap (by omega) (by omega), bin_rem (by decide), em, bin_add, i64_wrap (by omega) (by omega)]
  exact hR _ _ ⟨by rw [Rep.turned, if_neg hn0], rfl⟩
theorem new_ent (a b c d e f g h i j k l : Int) : Tryd.prog.built 64 [(0, .int .i64 a), (1, .int .i64 b), (2, .int .i64 c), (3, .int .i64 d), (4, .int .i64 e), (5, .int .i64 f), (6, .int .i64 g), (7, .agg #[.int .i64 h, .int .i64 i]), (8, .int .i64 j), (9, .int .i64 k), (10, .int .i64 l)] = some (SEntry.mk a b c d e f g ⟨h, i⟩ j k l).cells.toArray := by kernel_rfl
theorem new_span (a b : Int) : Tryd.prog.built 62 [(0, .int .i64 a), (1, .int .i64 b)] = some #[.int .i64 a, .int .i64 b] := by kernel_rfl
theorem changed_ret {e : SEntry} {k b : Int} (hf : Rep.formed e = true) (hk : 0 ≤ k ∧ k < 256) (hb : 0 ≤ b ∧ b < 256) (w : World) : Ret Tryd.prog 45 #[.agg e.cells.toArray, .int .u8 k, .int .u8 b] w fun r w' => r = .agg (Rep.changed e (k.toNat % 12) b).cells.toArray ∧ Ext w w' := by
  refine ret_of (fun _ _ => sh_landfalllaw24_changed_ok _ _ _) fun R hR => ?_
  unfold sh_landfalllaw24_changed
  obtain ⟨ii, hii, hzi, his, _⟩ := Ty.info_parts Ty.int_info
  refine box_i fun g w1 x1 hat _ _ => ?_
  refine alloc_i Ty.SEntry_zero fun q w2 x2 hatq hq _ => ?_
  have hz1 := x1.size
  rw [SEntry.g_all (has_of_at (At.ext hat x2))]
  refine callF_ret (Ints_ret e w2) ?_
  rintro v w3 ⟨h3, x3⟩
  obtain ⟨j, hj⟩ : ∃ j, j = k.toNat % 12 := ⟨_, rfl⟩
  have hj12 : j < 12 := by omega
  rw [conv_int Ty.u8 Ty.int, i64_wrap (by omega) (by omega), (Sl.of_owns h3).len Ty.ints, bin_rem (by decide), show k.tmod ((12 : Nat) : Int) = ((j : Nat) : Int) by rw [Int.tmod_eq_emod_of_nonneg hk.1]; omega]
  obtain ⟨b1, o1, hc, hbl, hix⟩ := (Sl.of_owns h3).index Ty.ints hii his (k := .i64) hj12 (by decide)
  have hlen := Rep.eints_len e
  rw [hix, load_cell Ty.int_agg (u := .int .i64 (Rep.eints e)[j]) (by rw [Nat.mul_one]; exact hc j _ (iv_get (show j < (Rep.eints e).length by omega)))]
  refine callF_same (turned_ret (Rep.formed_small hf _ (List.getElem_mem _)) hb w3) ?_
  have eT : Rep.turned (Rep.eints e)[j] b = Rep.turned ((Rep.eints e)[j]?.getD 0) b := by rw [List.getElem?_eq_getElem (show j < (Rep.eints e).length by omega)]; rfl
  rw [eT]
  refine own_set Ty.ints hii his Ty.int_size h3 hj12 rfl fun w5 h5 m5 _ => ?_
  have hset : (iv (Rep.eints e)).set j (.int .i64 (Rep.turned ((Rep.eints e)[j]?.getD 0) b)) = iv (Rep.eints (Rep.changed e j b)) := by rw [Rep.changed_ints]; simp [iv, List.map_set]
  rw [hset] at h5
  obtain ⟨c, hc⟩ : ∃ c, c = Rep.changed e j b := ⟨_, rfl⟩
  rw [← hc] at h5
  have hat5 := (At.ext hatq x3).mod m5 (by
    intro hh
    have := (Own.block h3 hh).1
    have := hatq.lt
    omega)
  have M5 : Mod (w.heap.size ≤ ·) w w5 := (Mod.of_ext ((x1.trans x2).trans x3) : Mod (w.heap.size ≤ ·) w w3).trans (m5.mono fun i _ hi => by have := (Own.block h3 hi).1; have := x2.size; omega)
  refine draw_ext fun w6 x6 => ?_
  have step : ∀ i (hi : i < 12) (n : Int), (n = (i : Nat)) → ∀ (rest : Value → (World → Prop) → Value → (World → Prop) → Prop), (∀ p, rest p (fun _ => True) (.int .i64 ((Rep.eints c)[i]'hi)) (fun _ => True)) →
      DetOp Ext Ext w6 (fun w7 K7 => DoV Tryd.prog (Instr.indexAt 24 v (.int .i64 n)) w7 K7 (Pan R)) (fun cc ψ => DetOp Ext Ext w6 (fun w8 K8 => DoV Tryd.prog (Instr.loadAt 3 cc) w8 K8 (Pan R)) (rest cc ψ)) := fun i hi n hn rest hr => by
    subst hn
    obtain ⟨bi, oi, hci, hbi, hixi⟩ := ((Sl.of_owns h5).ext x6).index Ty.ints hii his (k := .i64) hi (by decide)
    refine det_read _ (fun w7 x7 K => hixi w7 K _) ?_
    exact det_read _ (fun w8 x8 K => load_cell Ty.int_agg (cell_ext (by rw [Nat.mul_one]; exact hci i _ (iv_get (show i < (Rep.eints c).length from hi))) hbi x8)) (hr _)
  refine step 0 (by decide) 0 rfl _ fun p0 => ?_
  refine step 1 (by decide) 1 rfl _ fun p1 => ?_
  refine step 2 (by decide) 2 rfl _ fun p2 => ?_
  refine step 3 (by decide) 3 rfl _ fun p3 => ?_
  refine step 4 (by decide) 4 rfl _ fun p4 => ?_
  refine step 5 (by decide) 5 rfl _ fun p5 => ?_
  refine step 6 (by decide) 6 rfl _ fun p6 => ?_
  refine step 7 (by decide) 7 rfl _ fun p7 => ?_
  refine step 8 (by decide) 8 rfl _ fun p8 => ?_
  refine det_read _ (fun w7 x7 K => build_i (new_span _ _)) ?_
  refine step 9 (by decide) 9 rfl _ fun p9 => ?_
  refine step 10 (by decide) 10 rfl _ fun p10 => ?_
  refine step 11 (by decide) 11 rfl _ fun p11 => ?_
  intro w7 x7 _
  rw [build_i (new_ent _ _ _ _ _ _ _ _ _ _ _ _)]
  have x57 := x6.trans x7
  refine SEntry.set (r := SEntry.zero) (s := c) (hat5.ext x57) fun w8 m8 h8 _ => ?_
  have hvv : (loadVar 64 ⟨q, 0, none⟩).run Tryd.prog w8 = .ok (.agg c.cells.toArray) w8 := loadVar_agg Ty.SEntry_agg Ty.SEntry_size (xs := c.cells) rfl (has_of_at h8)
  refine res_i (rv_cell hvv (rv_nil w8)) ?_
  exact hR _ _ ⟨by rw [hc, hj]; rfl, ((M5.trans (Mod.of_ext x57)).trans (m8.mono fun i _ hi => by omega)).new⟩
end Go.Proofs.YtjinhojlnaplaaaDoor
/-! ## RepI -/
namespace Go.Proofs.YtjinhojlnaplaaaDoor
set_option maxRecDepth 100000
set_option maxHeartbeats 8000000
open Sh Go.RowKit
/-- append onto a new row without room. -/
theorem app_own0 {P : Program} {w : World} {K : Value → World → Prop} {X : List PanicEntry → World → Prop} {base g : Nat} {T e : TypeId} {ty : TypeId} {cs : Array Bool} {i : TypeInfo} {z : Value} {sz bytes : Nat} (hT : P.underlying T = some (.slice e)) (hi : P.info? e = some i) (hz : i.zero = some z)
    (hsz : i.size = sz) (hby : i.bytes = bytes) (hzs : z.cells.size = sz) (hpos : 0 < sz)
    {x : Value} {m : Nat} {news : List Value} (hown : w.ownsRow base e sz (.slice (some ⟨g, 0, none⟩) 0 0) 0 []) (hx : Sl w sz x m news) (h1 : ∀ u ∈ news, u.oneCell' = true) (hb : m * bytes ≤ 140737488355328) (h63 : m ≤ 140737488355328) (hbase : base ≤ w.heap.size)
    (hk : ∀ v' w1, w1.ownsRow base e sz v' m news → Ext w w1 → K v' w1) :
    CallB P .append #[T, T] ty cs #[.slice (some ⟨g, 0, none⟩) 0 0, x] w K X := by
  obtain ⟨a, c, rfl, hmc, hcm, hl, hr⟩ := hx
  have hfin : ∀ v' w1, (Builtin.append_ #[T, T] ty #[.slice (some ⟨g, 0, none⟩) 0 0, .slice a m c]).run P w = .ok v' w1 → K v' w1 → CallB P .append #[T, T] ty cs #[.slice (some ⟨g, 0, none⟩) 0 0, .slice a m c] w K X := fun v' w1 he hK => by
    simp only [CallB, Do, builtin, Sem.run_bind, he, Result.andThen_ok, Sem.run_pure]; exact hK
  by_cases hm0 : m = 0
  · subst hm0
    have hn : news = [] := List.eq_nil_of_length_eq_zero (by simpa using hl)
    subst hn
    rw [app_none hT hi (Nat.le_refl _)]
    exact hk _ _ hown (Ext.refl _)
  · rcases hr with rfl | ⟨b, o, rfl, hlt, hc⟩
    · exfalso
      have : m * sz = 0 := by simpa using hl.symm
      rcases Nat.mul_eq_zero.1 this with h | h <;> omega
    · have hnews : ∀ j u, news[j]? = some u → w.cell? ((⟨b, o, none⟩ : Addr).add j) = some u := fun j u hu => by
        have := hc j u hu
        unfold Addr.add
        split
        · rename_i hj; subst hj; simpa using this
        · exact this
      obtain ⟨v', w1, he, h2, h3, h4⟩ := run_append_own (P := P) w base T ty e i z sz bytes hT hi hz hsz hby hzs hpos _ 0 [] hown ⟨b, o, none⟩ m c news hl hnews h1 (by simp only [maxLen]; omega) (by rw [Nat.zero_add]; exact hb) hbase
      subst hsz
      subst hby
      have hr := run_append_grow (P := P) w T ty e i z hT hi hz ⟨g, 0, none⟩ 0 0 [] (by simp) (fun j u hu => by simp at hu) ⟨b, o, none⟩ m c news hl hnews (by omega) (by omega) (growslice_fits (by omega) (by rw [Nat.zero_add]; exact hb))
      rw [he] at hr
      simp only [Result.ok.injEq] at hr
      refine hfin v' w1 he (hk v' w1 (by simpa using h2) ?_)
      rw [hr.2]
      exact (Ext.drew w).trans (Ext.alloc _ _)
theorem ents_lit0 {w : World} {K : Value → World → Prop} {X : List PanicEntry → World → Prop} (hk : Ext w (w.alloc (.cells #[] 64)) → SEntry.Owns w.heap.size (w.alloc (.cells #[] 64)) (.slice (some ⟨w.heap.size, 0, none⟩) 0 0) [] → K (.slice (some ⟨w.heap.size, 0, none⟩) 0 0) (w.alloc (.cells #[] 64))) :
    DoV Tryd.prog (Instr.buildSlice 47 0 #[]) w K X := by
  obtain ⟨i, hi, hz, hs, hby⟩ := Ty.info_parts Ty.SEntry_info
  have e1 : (Instr.buildSlice 47 0 #[]).run Tryd.prog w = .ok (.slice (some ⟨w.heap.size, 0, none⟩) 0 0) (w.alloc (.cells #[] 64)) := by
    simp [Instr.buildSlice, run_underlying Ty.SEntry_row, sizeOf, typeInfo, hi, Instr.fill, newRow, newObj, Sem.run]
    rw [show Array.range 0 = #[] by decide]; simp
  rw [DoV_ok e1]
  exact hk (Ext.alloc _ _) ⟨by simp [fl], .inr ⟨w.heap.size, 0, #[], rfl, Nat.le_refl _, heap_alloc_new w _, Nat.le_refl _, Nat.zero_le _, by simp, by simp [fl]⟩⟩
theorem ents_app0 {w : World} {K : Value → World → Prop} {X : List PanicEntry → World → Prop} {base g : Nat} {cs : Array Bool} {x : Value} {m : List SEntry} (hown : SEntry.Owns base w (.slice (some ⟨g, 0, none⟩) 0 0) []) (hx : SEntry.Row w x m) (hl : m.length < 100000000000) (hb : base ≤ w.heap.size) (hk : ∀ v' w1, SEntry.Owns base w1 v' m → Ext w w1 → K v' w1) :
    CallB Tryd.prog .append #[47, 47] 47 cs #[.slice (some ⟨g, 0, none⟩) 0 0, x] w K X := by
  obtain ⟨i, hi, hz, hs, hby⟩ := Ty.info_parts Ty.SEntry_info
  exact app_own0 Ty.SEntry_row hi hz hs hby rfl (by decide) hown hx (fl_one SEntry.one m) (by omega) (by omega) hb hk
theorem with_ret {v : Value} {l : List SEntry} {e : SEntry} (w : World) (hv : SEntry.Row w v l) (h0 : 0 < l.length) (hl : l.length < 1000000) : Ret Tryd.prog 44 #[v, .agg e.cells.toArray] w fun r w' => SEntry.Owns w.heap.size w' r (l.take (l.length - 1) ++ [e]) ∧ Ext w w' := by
  refine ret_of (fun _ _ => sh_landfalllaw24_with_ok _ _) fun R hR => ?_
  unfold sh_landfalllaw24_with
  refine box_i fun g w1 x1 hat _ _ => ?_
  obtain ⟨v', hv', hsl⟩ := ents_upto hv (show l.length - 1 ≤ l.length by omega)
  refine drawRX fun w2 x2 hs2 => ?_
  have x02 := x1.trans x2
  refine det_rx _ (fun w3 x3 K => SEntry.row_len (Sl.ext hv (x02.trans x3))) ?_
  refine det_rx (.int .i64 ((l.length - 1 : Nat) : Int)) (fun w3 x3 K => by rw [bin_sub, i64_wrap (by omega) (by omega)]; congr 2; omega) ?_
  refine det_rx v' (fun w3 x3 K => hsl w3 K _) ?_
  refine det_rx (.agg e.cells.toArray) (fun w3 x3 K => SEntry.g_all (has_of_at ((At.ext hat x2).ext x3))) ?_
  refine thr_x (fun vs W => ∃ v1 v2, vs = [v1, v2] ∧ SEntry.Owns w2.heap.size W v2 (l.take (l.length - 1))) ?_ ?_
  · refine nd_x (fun v W => ∃ q, v = .slice (some ⟨q, 0, none⟩) 0 0 ∧ SEntry.Owns w2.heap.size W v []) (fun v a b hs hx => by obtain ⟨q, e1, e2⟩ := hs; exact ⟨q, e1, Own.ext e2 hx⟩) (fun w3 x3 _ => ?_) fun v1 => ?_
    · exact ents_lit0 fun x4 h4 => ⟨x4, _, rfl, Own.mono h4 x3.size⟩
    refine nd_x (fun v W => SEntry.Owns w2.heap.size W v (l.take (l.length - 1))) (fun v a b hs hx => Own.ext hs hx) (fun w3 x3 hq => ?_) fun v2 => ?_
    · obtain ⟨q, rfl, hq⟩ := hq
      exact ents_app0 hq (Sl.ext hv' (x02.trans x3)) (by simp; omega) x3.size fun v4 w4 h4 x4 => ⟨x4, h4⟩
    · intro w3 x3 h3
      exact ⟨v1, v2, rfl, h3⟩
  refine thr_x (fun vs W => ∃ v1, vs = [v1] ∧ SEntry.Owns w2.heap.size W v1 [e]) ?_ ?_
  · refine nd_x (fun v W => SEntry.Owns w2.heap.size W v [e]) (fun v a b hs hx => Own.ext hs hx) (fun w3 x3 _ => ?_) fun v1 => ?_
    · exact SEntry.row_lit [e] rfl (by decide) (by decide) rfl fun v4 w4 x4 h4 _ => ⟨x4, Own.mono h4 x3.size⟩
    · intro w3 x3 h3
      exact ⟨v1, rfl, h3⟩
  rintro hh w3 x3 ⟨_, ⟨_, v1, v2, e1, h1⟩, v3, e2, h2⟩
  simp only [List.cons.injEq, and_true] at e1 e2
  rw [e1.2, e2]
  refine SEntry.row_apps h1 (Sl.of_owns h2) (by simp; omega) (by have := x3.size; omega) fun v4 w4 h4 m4 => ?_
  refine hR _ _ ⟨Own.mono h4 (by have := x02.size; omega), ?_⟩
  exact ((Mod.of_ext (x02.trans x3) : Mod (w.heap.size ≤ ·) w w3).trans (m4.mono fun k _ hk => by have := (Own.block h1 hk).1; have := x02.size; omega)).new
/-! ### the example -/
def Rep.exE : SEntry := ⟨1, 5, 3, 2, 7, 0, 0, ⟨10, 20⟩, 0, 0, 0⟩
def Rep.exL : Rep.Lg := ⟨3, [[⟨0, 0⟩]], [Rep.exE]⟩
theorem Rep.exL_ok : LogOk Rep.exL := by
  refine ⟨by unfold I64 Rep.exL; decide, fun l hl p hp => ?_, fun e he => ?_⟩
  · simp only [Rep.exL, List.mem_singleton] at hl
    subst hl
    rw [List.mem_singleton] at hp
    subst hp
    exact ⟨by unfold I64; decide, by unfold I64; decide⟩
  · simp only [Rep.exL, List.mem_singleton] at he
    subst he
    unfold SEntry.Ok Rep.exE SSpan.Ok I64
    decide
theorem Rep.exL_valid : Rep.exL.valid = true := by
  have h : Hul.valid [⟨0, 0⟩] = true := by
    unfold Hul.valid
    refine @decide_eq_true _ (_) ?_
    refine ⟨⟨⟨by decide, by decide⟩, fun p hp => ?_, fun i h1 h2 => ?_⟩, fun h => ?_⟩
    · rw [List.mem_singleton] at hp; subst hp; rfl
    · have h2 : i < 1 := h2
      omega
    · have h : 3 ≤ 1 := h
      omega
  unfold Rep.Lg.valid Rep.valid regValid
  have e1 : ([[⟨0, 0⟩]] : List (List SPoint)).all Hul.valid = true := by rw [List.all_cons, h]; rfl
  show (Rep.isID 3 && (decide (0 < 1) && ((decide (1 ≤ 32) && ([[⟨0, 0⟩]] : List (List SPoint)).all Hul.valid) && Rep.follows [Rep.exE] 1))) = true
  rw [e1]; decide
theorem new_pt (a b : Int) : Tryd.prog.built 109 [(0, .int .i64 a), (1, .int .i64 b)] = some (SPoint.mk a b).cells.toArray := by kernel_rfl
theorem new_exE : Tryd.prog.built 64 [(0, .int .i64 1), (1, .int .i64 5), (2, .int .i64 3), (3, .int .i64 2), (4, .int .i64 7), (7, .agg #[.int .i64 10, .int .i64 20])] = some Rep.exE.cells.toArray := by kernel_rfl
theorem new_log (v : Int) (d e : Hdr) : Tryd.prog.built 49 [(0, .int .i64 v), (1, d.val), (2, e.val)] = some (SLog.mk v d e).cells.toArray := by kernel_rfl
theorem example_ret (w : World) : Ret Tryd.prog 58 #[] w fun r w' => (∃ g : SLog, r = .agg g.cells.toArray ∧ LogIs w' g Rep.exL) ∧ Ext w w' := by
  refine ret_of (fun _ _ => sh_landfalllaw24_example_ok) fun R hR => ?_
  unfold sh_landfalllaw24_example
  obtain ⟨ip, hip, hpz, hps, _⟩ := Ty.info_parts Ty.points_info
  refine alloc_i Ty.SLog_zero fun b w1 x1 hat hb _ => ?_
  rw [build_i (new_span _ _), build_i new_exE]
  refine alloc_i Ty.SEntry_zero fun q w2 x2 hatq hq _ => ?_
  refine SEntry.set (r := SEntry.zero) (s := Rep.exE) hatq fun w3 m3 hq3 _ => ?_
  rw [build_i (new_pt _ _)]
  have z1 := x1.size; have z2 := x2.size; have z3 := m3.size
  have lb := hat.lt
  refine SPoint.row_lit [⟨0, 0⟩] rfl (by decide) (by decide) rfl fun v4 w4 x4 h4 _ => ?_
  refine litn_i [v4] Ty.polys hip hps hpz (by intro v hv; rw [List.mem_singleton] at hv; subst hv; exact Sl.cells (Sl.of_owns h4)) rfl (by decide) (by decide) rfl fun v5 w5 x5 h5 _ => ?_
  rw [SEntry.g_all (has_of_at ((hq3.ext x4).ext x5))]
  refine SEntry.row_lit [Rep.exE] rfl (by decide) (by decide) rfl fun v6 w6 x6 h6 _ => ?_
  obtain ⟨d, rfl⟩ := Hdr.of_sl (Sl.of_owns h5)
  obtain ⟨e, rfl⟩ := Hdr.of_sl (Sl.of_owns h6)
  rw [build_i (new_log _ d e)]
  have X6 := (x4.trans x5).trans x6
  have hat6 := ((hat.ext x2).mod m3 (by omega)).ext X6
  refine SLog.set (r := SLog.zero) (s := ⟨3, d, e⟩) hat6 fun w7 m7 h7 _ => ?_
  have z4 := x4.size; have z5 := x5.size
  have hvv : (loadVar 49 ⟨b, 0, none⟩).run Tryd.prog w7 = .ok (.agg (SLog.mk 3 d e).cells.toArray) w7 := loadVar_agg Ty.SLog_agg Ty.SLog_size (xs := (SLog.mk 3 d e).cells) rfl (has_of_at h7)
  refine res_i (rv_cell hvv (rv_nil w7)) ?_
  have off : ∀ {e' : TypeId} {sz n base : Nat} {v : Value} {xs : List Value}, w6.ownsRow base e' sz v n xs → b < base → w7.ownsRow base e' sz v n xs := fun h hlt => Own.mod h m7 fun k hk hkb => by have := (Own.block h hk).1; omega
  refine hR _ _ ⟨⟨⟨3, d, e⟩, rfl, rfl, ⟨[v4], Sl.of_owns (off (Own.ext h5 x6) (by omega)), fun j u l hu hl => ?_⟩, Sl.of_owns (off h6 (by omega))⟩, ?_⟩
  · match j with
    | 0 =>
      simp only [Rep.exL, List.getElem?_cons_zero, Option.some.injEq] at hu hl
      subst hu hl
      exact Sl.of_owns (off (Own.ext (Own.ext h4 x5) x6) (by omega))
    | j + 1 => simp at hu
  · exact ((((Mod.of_ext (x1.trans x2) : Mod (w.heap.size ≤ ·) w w2).trans (m3.mono fun k _ hk => by omega)).trans (Mod.of_ext X6)).trans (m7.mono fun k _ hk => by omega)).new
end Go.Proofs.YtjinhojlnaplaaaDoor
/-! ## RepJ -/
namespace Go.Proofs.YtjinhojlnaplaaaDoor
set_option maxRecDepth 100000
set_option maxHeartbeats 8000000
open Sh Go.RowKit
/-! ### variables of structs -/
section vars
variable {w : World} {K : Value → World → Prop} {X1 X2 : List PanicEntry → World → Prop}
theorem SReport.var {g : SReport} (hk : ∀ b w2, Ext w w2 → At w2 b (.cells g.cells.toArray 51 (0, 0)) → w.heap.size ≤ b → K (.pointer (some ⟨b, 0, none⟩)) w2) :
    DoV Tryd.prog (Instr.alloc 51 true (.tuple #[])) w (fun t w1 => DoU Tryd.prog (Instr.storeAt 51 t (.agg g.cells.toArray)) w1 (fun _ w2 => K t w2) X1) X2 := by
  refine alloc_i Ty.SReport_zero fun b w1 x1 hat hb _ => ?_
  refine SReport.set (r := SReport.zero) hat fun w2 m2 h2 _ => ?_
  exact hk _ _ ((Mod.of_ext x1 : Mod (w.heap.size ≤ ·) w w1).trans (m2.mono fun k _ h => by omega)).new h2 (by omega)
theorem SLog.var {g : SLog} (hk : ∀ b w2, Ext w w2 → At w2 b (.cells g.cells.toArray 49 (0, 0)) → w.heap.size ≤ b → K (.pointer (some ⟨b, 0, none⟩)) w2) :
    DoV Tryd.prog (Instr.alloc 49 true (.tuple #[])) w (fun t w1 => DoU Tryd.prog (Instr.storeAt 49 t (.agg g.cells.toArray)) w1 (fun _ w2 => K t w2) X1) X2 := by
  refine alloc_i Ty.SLog_zero fun b w1 x1 hat hb _ => ?_
  refine SLog.set (r := SLog.zero) hat fun w2 m2 h2 _ => ?_
  exact hk _ _ ((Mod.of_ext x1 : Mod (w.heap.size ≤ ·) w w1).trans (m2.mono fun k _ h => by omega)).new h2 (by omega)
theorem SEntry.var {g : SEntry} (hk : ∀ b w2, Ext w w2 → At w2 b (.cells g.cells.toArray 64 (0, 0)) → w.heap.size ≤ b → K (.pointer (some ⟨b, 0, none⟩)) w2) :
    DoV Tryd.prog (Instr.alloc 64 true (.tuple #[])) w (fun t w1 => DoU Tryd.prog (Instr.storeAt 64 t (.agg g.cells.toArray)) w1 (fun _ w2 => K t w2) X1) X2 := by
  refine alloc_i Ty.SEntry_zero fun b w1 x1 hat hb _ => ?_
  refine SEntry.set (r := SEntry.zero) hat fun w2 m2 h2 _ => ?_
  exact hk _ _ ((Mod.of_ext x1 : Mod (w.heap.size ≤ ·) w w1).trans (m2.mono fun k _ h => by omega)).new h2 (by omega)
end vars
/-- A step into memory that is new since w. -/
theorem ext_step {w w1 w2 : World} {b : Nat} (h : Ext w w1) (m : Mod (· = b) w1 w2) (hb : w.heap.size ≤ b) : Ext w w2 :=
  ((Mod.of_ext h : Mod (w.heap.size ≤ ·) w w1).trans (m.mono fun k _ h => by omega)).new
namespace Rep
theorem pub_member (s : Nat) : Sig.member ((Sig.pw 4 s : Nat) : Int) = true := by
  obtain ⟨n, h1, _, _, h4⟩ := Sig.member_nat Sig.member_4
  have h1 : 4 = n := by omega
  subst h1
  exact Sig.member_pw h4 s
theorem check_other {r : Rpt} {s o : Nat} {m : List Int} (hr : okR r = true) (hs : r.sig = Sig.sigOf s o m) : (checkV r ((Sig.pw 4 s : Nat) : Int)).2 = 0 ∧ (carry r.before r.ents ≠ r.chain → (checkV r ((Sig.pw 4 s : Nat) : Int)).1 = false) := by
  rw [checkV, if_pos hr, hs]
  obtain ⟨h1, h2⟩ := Sig.sigOf_in s o m
  refine ⟨?_, fun hne => ?_⟩
  · rw [Sig.verV, if_pos ⟨pub_member s, h1, h2⟩]
  · rw [decide_eq_false hne, Bool.and_false]
theorem check_bad {r : Rpt} {p : Int} (hr : okR r = false) : checkV r p = (false, 1) := by rw [checkV, if_neg (by rw [hr]; decide)]
end Rep
theorem u64_succ (d : BitVec 64) {K : Value → World → Prop} {X : List PanicEntry → World → Prop} {t : TypeId} {ox oy : Operand} {w : World} {P : Program} : DoV P (binS .add t ox oy (u64v d) (.int .u64 1)) w K X = K (u64v (d + 1)) w := by
  rw [u64v, bin_add, u64v, u64w]
  congr 2
theorem begin3 : Rep.begin 3 = Dig.sum [3] := by rw [Rep.begin]
theorem new_nolog : Tryd.prog.built 49 [] = some SLog.zero.cells.toArray := by kernel_rfl
theorem LogIs.zero (w : World) : LogIs w SLog.zero ⟨0, [], []⟩ := ⟨rfl, RL.nil _, SEntry.row_nil _⟩
theorem nolog_ok : LogOk ⟨0, [], []⟩ := ⟨by show I64 0; unfold I64; decide, fun l hl => by simp at hl, fun e he => by simp at he⟩
theorem nolog_valid : Rep.Lg.valid ⟨0, [], []⟩ = false := by unfold Rep.Lg.valid Rep.valid; rw [show Rep.isID 0 = false from rfl, Bool.false_and]
theorem exE_ok : ∀ n ∈ Rep.eints Rep.exE, I64 n := Rep.eints_ok (Rep.exL_ok.2.2 _ (List.mem_singleton_self _))
attribute [local irreducible] Dig.next Dig.sum Rep.carry Rep.begin in
theorem head24_ret (w : World) (ht : Tab w) : Ret Tryd.prog 29 #[] w (TrueQ w) := by
  refine ret_of (fun _ _ => sh_landfalllaw24_head_ok) fun R hR => ?_
  unfold sh_landfalllaw24_head
  have hv := Rep.exL_valid
  have hlen : Rep.exL.ents.length = 1 := rfl
  have hq : Sig.Q = 1073741789 := rfl
  have hmk : Rep.makeV Rep.exL 1 1 5 6 = (Rep.made Rep.exL 1 1 5 6, 0) := Rep.makeV_ok (n := 1) (m := 1) (s := 5) (o := 6) hv (by decide) (by decide) (by decide) ⟨by decide, by decide⟩ ⟨by decide, by decide⟩
  have hrt := Rep.made_right (n := 1) (m := 1) (s := 5) (o := 6) hv (by decide) (by decide) (by decide) ⟨by decide, by decide⟩ ⟨by decide, by decide⟩
  have hsg := Rep.made_sig (L := Rep.exL) (f := 1) (l := 1) (s := 5) (o := 6) ⟨by decide, by decide⟩ ⟨by decide, by decide⟩
  have hok1 := Rep.made_okR (n := 1) (m := 1) (s := (5 : Int)) (o := (6 : Int)) hv (by decide) (by decide) (by decide)
  have c0 : Rep.chainV Rep.exL 0 = (Rep.begin 3, 0) := by have := Rep.chainV_ok hv (n := 0) (by decide); rw [show Rep.exL.ents.take 0 = [] from rfl, Rep.carry_nil, show Rep.exL.veh = 3 from rfl] at this; exact this
  have c1 : Rep.chainV Rep.exL 1 = (Dig.next (Rep.begin 3) (Rep.eints Rep.exE), 0) := by have := Rep.chainV_ok hv (n := 1) (by decide); rw [show Rep.exL.ents.take 1 = [Rep.exE] from rfl, Rep.carry_one, show Rep.exL.veh = 3 from rfl] at this; exact this
  have hbef : (Rep.made Rep.exL 1 1 5 6).before = Rep.begin 3 := by show Rep.carry (Rep.begin 3) [] = _; rw [Rep.carry_nil]
  have hchn : (Rep.made Rep.exL 1 1 5 6).chain = Dig.next (Rep.begin 3) (Rep.eints Rep.exE) := by show Rep.carry (Rep.carry (Rep.begin 3) []) [Rep.exE] = _; rw [Rep.carry_nil, Rep.carry_one]
  refine callF_ret (example_ret w) ?_
  rintro _ w1 ⟨⟨g, rfl, hg⟩, x1⟩
  refine SLog.var fun b1 w2 x2 hat2 hb2 => ?_
  rw [SLog.g_all (has_of_at hat2)]
  refine callF_ret (Chain_ret Rep.exL_ok w2 (hg.ext x2) (ht.ext (x1.trans x2))) ?_
  rintro _ w3 ⟨rfl, x3⟩
  rw [c0, ext2_0, ext2_1, SLog.g_all (has_of_at (hat2.ext x3))]
  have x13 := x2.trans x3
  refine callF_ret (Chain_ret Rep.exL_ok w3 (hg.ext x13) (ht.ext (x1.trans x13))) ?_
  rintro _ w4 ⟨rfl, x4⟩
  have x14 := x13.trans x4
  have hat4 := (hat2.ext x3).ext x4
  rw [c1, ext2_0, ext2_1, SLog.g_all (has_of_at hat4)]
  refine callF_ret (Make_ret Rep.exL_ok (by unfold I64; decide) (by decide) w4 (hg.ext x14) (ht.ext (x1.trans x14))) ?_
  rintro _ w5 ⟨r, rfl, hr, x5, _⟩
  rw [hmk] at hr ⊢
  have hr : RepIs w5 r (Rep.made Rep.exL 1 1 5 6) := hr
  rw [ext2_0, ext2_1]
  refine SReport.var fun b6 w6 x6 hat6 hb6 => ?_
  refine callF_ret (Public_ret 5 w6) ?_
  rintro _ w7 ⟨rfl, x7⟩
  have hpub : Sig.pubV 5 = (((Sig.pw 4 5 : Nat) : Int), 0) := Sig.pubV_of (s := 5) (by decide) (by decide)
  rw [hpub, ext2_0, ext2_1]
  have x57 := x6.trans x7
  rw [SReport.g_all (has_of_at (hat6.ext x7))]
  have hokr : RepOk (Rep.made Rep.exL 1 1 5 6) := by
    refine ⟨by show I64 3; unfold I64; decide, by show I64 1; unfold I64; decide, fun e he => Rep.exL_ok.2.2 e (List.mem_of_mem_take (List.mem_of_mem_drop he)), ?_, by show ((Rep.exL.ents.take 1).drop 0).length ≤ _; decide⟩
    have hsg' : (Rep.made Rep.exL 1 1 5 6).sig = _ := hsg
    rw [hsg']
    obtain ⟨e, h1, h2, _, h4⟩ := Sig.sigOf_e 5 6 (Rep.msg (Rep.made Rep.exL 1 1 ((5 : Nat) : Int) ((6 : Nat) : Int)))
    have h5 := Nat.mod_lt (6 + e * 5) (show 0 < Sig.Q by decide)
    exact ⟨by rw [h1]; unfold I64; omega, by rw [h4]; unfold I64; omega⟩
  refine callF_ret (Check_ret hokr w7 (hr.ext x57) (ht.ext ((x1.trans x14).trans (x5.trans x57)))) ?_
  rintro _ w8 ⟨rfl, x8⟩
  have hrt : Rep.checkV (Rep.made Rep.exL 1 1 5 6) ((Sig.pw 4 5 : Nat) : Int) = (true, 0) := hrt
  rw [hrt, ext2_0, ext2_1]
  have x58 := x57.trans x8
  rw [SReport.g_all (has_of_at ((hat6.ext x7).ext x8))]
  refine SReport.var fun b12 w9 x9 hat9 hb9 => ?_
  rw [SReport.g_chain (has_of_at hat9), u64_succ]
  refine SReport.s_chain hat9 fun w10 m10 hat10 _ => ?_
  have x8t10 : Ext w8 w10 := ext_step x9 m10 hb9
  rw [SReport.g_all (has_of_at hat10)]
  have x5t10 := x58.trans x8t10
  have hbad : RepIs w10 { r with chain := r.chain + 1 } { Rep.made Rep.exL 1 1 5 6 with chain := (Rep.made Rep.exL 1 1 5 6).chain + 1 } := by
    have h := hr.ext x5t10
    exact ⟨h.1, h.2.1, h.2.2.1, h.2.2.2.1, by show r.chain + 1 = _; rw [h.2.2.2.2.1], h.2.2.2.2.2⟩
  have hokb : RepOk { Rep.made Rep.exL 1 1 5 6 with chain := (Rep.made Rep.exL 1 1 5 6).chain + 1 } := hokr
  have hco := Rep.check_other (r := { Rep.made Rep.exL 1 1 5 6 with chain := (Rep.made Rep.exL 1 1 5 6).chain + 1 }) (s := 5) (o := 6) hok1 hsg
  have hne : ∀ d : BitVec 64, d ≠ d + 1 := fun d h => by
    have := congrArg BitVec.toNat h
    rw [BitVec.toNat_add, show (1 : BitVec 64).toNat = 1 from rfl] at this
    have := d.isLt
    omega
  have hno := hco.2 (by show Rep.carry (Rep.made Rep.exL 1 1 5 6).before (Rep.made Rep.exL 1 1 5 6).ents ≠ _; rw [← Rep.made_chain]; exact hne _)
  refine callF_ret (Check_ret hokb w10 hbad (ht.ext ((x1.trans x14).trans (x5.trans x5t10)))) ?_
  rintro _ w11 ⟨rfl, x11⟩
  rw [hno, hco.1, ext2_0, ext2_1]
  have x4t11 := x5.trans (x5t10.trans x11)
  rw [SLog.g_all (has_of_at (hat4.ext x4t11))]
  have hmk2 : Rep.makeV Rep.exL 1 2 5 6 = (Rep.Rpt.zero, 1) := by
    rw [Rep.makeV, if_neg]
    rintro ⟨_, _, _, h, _⟩
    rw [hlen] at h; omega
  refine callF_ret (Make_ret Rep.exL_ok (by unfold I64; decide) (by decide) w11 (hg.ext (x14.trans x4t11)) (ht.ext ((x1.trans x14).trans x4t11))) ?_
  rintro _ w12 ⟨r2, rfl, _, x12, _⟩
  rw [hmk2, ext2_0, ext2_1]
  refine SReport.var fun b15 w13 x13' hat13 hb13 => ?_
  rw [build_i new_norep]
  have hzok : RepOk Rep.Rpt.zero := ⟨by show I64 0; unfold I64; decide, by show I64 0; unfold I64; decide, fun e he => by simp [Rep.Rpt.zero] at he, ⟨by show I64 0; unfold I64; decide, by show I64 0; unfold I64; decide⟩, by simp [Rep.Rpt.zero]⟩
  have x113 := x12.trans x13'
  refine callF_ret (Check_ret hzok w13 (RepIs.zero w13) (ht.ext ((x1.trans x14).trans (x4t11.trans x113)))) ?_
  rintro _ w14 ⟨rfl, x14'⟩
  rw [Rep.check_bad (r := Rep.Rpt.zero) rfl, ext2_0, ext2_1]
  have X4 := x4t11.trans (x113.trans x14')
  have X := (x1.trans x14).trans X4
  have hat6' : At w14 b6 _ := hat6.ext ((((x7.trans x8).trans x8t10).trans x11).trans (x113.trans x14'))
  refine join1 (fun q W => q = .bool true ∧ Ext w14 W) ?_ fun K1 hK1 => ?_
  · rintro hh q W hq ⟨rfl, xW⟩
    refine join1 (fun q W => q = .bool true ∧ Ext w14 W) ?_ fun K2 hK2 => ?_
    · rintro hh q W hq ⟨rfl, xW⟩
      rw [hq, Gd_bool, if_pos rfl, SReport.g_before (has_of_at (hat6'.ext xW)), hr.2.2.2.1, hbef, bin_eqv, decide_eq_true rfl, Gd_bool, if_pos rfl, SReport.g_chain (has_of_at (hat6'.ext xW)), hr.2.2.2.2.1, hchn, bin_eqv, decide_eq_true rfl, Gd_bool, if_pos rfl]
      rw [SLog.g_all (has_of_at (hat4.ext (X4.trans xW)))]
      refine callF_ret ((hg.ext (x14.trans (X4.trans xW))).valid_ret Rep.exL_ok) ?_
      rintro _ w15 ⟨rfl, x15⟩
      rw [hv, Gd_bool, if_pos rfl, build_i new_nolog]
      refine callF_ret ((LogIs.zero w15).valid_ret nolog_ok) ?_
      rintro _ w16 ⟨rfl, x16⟩
      rw [nolog_valid, un_not]
      exact hR _ _ ⟨rfl, ((X.trans xW).trans x15).trans x16⟩
    · have htW := ht.ext (X.trans xW)
      rw [hq, Gd_bool, if_pos rfl]
      refine lit_ints [3] rfl (by decide) (by decide) rfl fun v w15 x15 h5 _ => ?_
      refine callF_ret (sum_int_ret (l := [3]) (by intro n hn; rw [List.mem_singleton] at hn; subst hn; unfold I64; decide) w15 (Sl.of_owns h5) (htW.ext x15)) ?_
      rintro _ w16 ⟨rfl, x16⟩
      rw [begin3, bin_eqv, decide_eq_true rfl, Gd_bool, if_pos rfl]
      refine lit_ints (Rep.eints Rep.exE) rfl (by decide) (by decide) rfl fun v2 w17 x17 h7 _ => ?_
      refine callF_ret (next_ret (l := Rep.eints Rep.exE) exE_ok w17 (Sl.of_owns h7) (htW.ext ((x15.trans x16).trans x17))) ?_
      rintro _ w18 ⟨rfl, x18⟩
      rw [bin_eqv, decide_eq_true rfl]
      exact hK2 _ _ ⟨rfl, (((xW.trans x15).trans x16).trans x17).trans x18⟩
  · simp only [bin_eql, Gd_bool, un_not, decide_true, if_true, Bool.not_false]
    exact hK1 _ _ ⟨rfl, Ext.refl _⟩
end Go.Proofs.YtjinhojlnaplaaaDoor
