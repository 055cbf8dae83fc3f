/- The walks of reports: Chain, message, Check; both. -/
import Derived.Test.YtoeblipchoglaaaGreatDoorZRepT
import Derived.Test.YtoeblipchoglaaaGreatDoorZSigA
namespace Go.Proofs.YtoeblipchoglaaaGreatDoor
set_option maxRecDepth 100000
set_option maxHeartbeats 8000000
open Sh Go.RowKit
namespace Rep
structure Lg where
  veh : Int
  rs : List (List SPoint)
  ents : List SEntry
structure Rpt where
  veh : Int
  first : Int
  ents : List SEntry
  before : BitVec 64
  chain : BitVec 64
  sig : SSig
noncomputable def Lg.valid (L : Lg) : Bool := Rep.valid L.veh L.rs L.ents
noncomputable def chainV (L : Lg) (last : Int) : BitVec 64 × Int := if L.valid = true ∧ 0 ≤ last ∧ last ≤ L.ents.length then (carry (begin L.veh) (L.ents.take last.toNat), 0) else (0, 1)
def hi (d : BitVec 64) : Int := (d.toNat / 4294967296 : Nat)
def lo (d : BitVec 64) : Int := (d.toNat % 4294967296 : Nat)
def msg (r : Rpt) : List Int := [r.veh, r.first, r.ents.length, hi r.before, lo r.before, hi r.chain, lo r.chain]
def okR (r : Rpt) : Bool := isID r.veh && (decide (0 < r.ents.length) && follows r.ents r.first)
def checkV (r : Rpt) (p : Int) : Bool × Int := if okR r = true then ((Sig.verV p r.sig (msg r)).1 && decide (carry r.before r.ents = r.chain), (Sig.verV p r.sig (msg r)).2) else (false, 1)
end Rep
def LogIs (w : World) (s : SLog) (L : Rep.Lg) : Prop := s.veh = L.veh ∧ RL w s.start.val L.rs ∧ SEntry.Row w s.ents.val L.ents
def LogOk (L : Rep.Lg) : Prop := I64 L.veh ∧ (∀ l ∈ L.rs, ∀ p ∈ l, p.Ok) ∧ ∀ e ∈ L.ents, e.Ok
def RepIs (w : World) (s : SReport) (r : Rep.Rpt) : Prop := s.veh = r.veh ∧ s.first = r.first ∧ SEntry.Row w s.ents.val r.ents ∧ s.before = r.before ∧ s.chain = r.chain ∧ s.sig = r.sig
def RepOk (r : Rep.Rpt) : Prop := I64 r.veh ∧ I64 r.first ∧ (∀ e ∈ r.ents, e.Ok) ∧ r.sig.Ok ∧ r.ents.length ≤ 9223372036854775807
theorem LogIs.ext {w w' : World} {s : SLog} {L : Rep.Lg} (h : LogIs w s L) (he : Ext w w') : LogIs w' s L := ⟨h.1, h.2.1.ext he, Sl.ext h.2.2 he⟩
theorem RepIs.ext {w w' : World} {s : SReport} {r : Rep.Rpt} (h : RepIs w s r) (he : Ext w w') : RepIs w' s r := ⟨h.1, h.2.1, Sl.ext h.2.2.1 he, h.2.2.2⟩
theorem LogIs.valid_ret {s : SLog} {L : Rep.Lg} {w : World} (h : LogIs w s L) (hok : LogOk L) : Ret Tryz.prog 46 #[.agg s.cells.toArray] w fun r w' => r = .bool L.valid ∧ Ext w w' := by
  have := logValid_ret (s := s) hok.2.1 w h.2.1 h.2.2
  rw [h.1] at this; exact this
theorem LogIs.refValid_ret {s : SLog} {L : Rep.Lg} {w : World} (h : LogIs w s L) : Ret Tryz.prog 30 #[.agg s.cells.toArray] w fun r w' => r = .bool L.valid ∧ Ext w w' := by
  have := refLogValid_ret (s := s) w h.2.1 h.2.2
  rw [h.1] at this; exact this
theorem ents_upto {w : World} {v : Value} {l : List SEntry} (h : SEntry.Row w v l) {k : Nat} (hk : k ≤ l.length) : ∃ v', SEntry.Row w v' (l.take k) ∧ ∀ (w1 : World) (K : Value → World → Prop) (X : List PanicEntry → World → Prop), DoV Tryz.prog (Instr.sliceAt 23 v none (some (.int .i64 k)) none) w1 K X = K v' w1 := by
  obtain ⟨i, hi, hz, hs, hby⟩ := Ty.info_parts Ty.SEntry_info
  obtain ⟨v', h1, h2⟩ := upto_val (k := .i64) Ty.SEntry_row hi hs (by decide) h hk
  rw [fl_take SEntry.len] at h1
  exact ⟨v', by rw [SEntry.Row, List.length_take, Nat.min_eq_left hk]; exact h1, h2⟩
theorem Ty.ents_agg (w : World) : (isAgg 23).run Tryz.prog w = .ok false w := by kernel_rfl
def ChainQ (L : Rep.Lg) (last : Int) (w : World) (r : Value) (w' : World) : Prop := r = .tuple #[u64v (Rep.chainV L last).1, .int .i64 (Rep.chainV L last).2] ∧ Ext w w'
theorem Chain_ret {s : SLog} {L : Rep.Lg} {last : Int} (hok : LogOk L) (w : World) (h : LogIs w s L) (ht : Tab w) : Ret Tryz.prog 50 #[.agg s.cells.toArray, .int .i64 last] w (ChainQ L last w) := by
  refine ret_of (fun _ _ => sh_report_Chain_ok _ _) fun R hR => ?_
  unfold sh_report_Chain
  refine box_i fun g w1 x1 hat _ _ => ?_
  have hg : ∀ W, Ext w1 W → Has W g 0 s.cells := fun W x => has_of_at (hat.ext x)
  have hle := h.2.2.le
  refine join0 (fun W => Ext w1 W ∧ L.valid = true ∧ 0 ≤ last ∧ last ≤ L.ents.length) ?_ fun K hK => ?_
  · rintro _ W ⟨xW, hval⟩
    obtain ⟨n, rfl⟩ : ∃ n : Nat, last = n := ⟨last.toNat, by omega⟩
    have hn : n ≤ L.ents.length := by omega
    refine drawR1 fun w3 x3 hs3 => ?_
    have xW3 := xW.trans x3
    obtain ⟨v', hv', hsl⟩ := ents_upto h.2.2 hn
    refine det_r1 _ (fun w4 m4 K => Ty.SLog_f2) ?_
    refine det_r1 s.ents.val (fun w4 m4 K => load_cell Ty.ents_agg (has_at (hg w4 (xW3.trans m4.new)) (d := 2) rfl rfl)) ?_
    refine det_r1 v' (fun w4 m4 K => hsl w4 K _) ?_
    refine det_r1 _ (fun w4 m4 K => Ty.SLog_f0) ?_
    refine det_r1 (.int .i64 s.veh) (fun w4 m4 K => load_cell Ty.int_agg (has_at (hg w4 (xW3.trans m4.new)) (d := 0) rfl rfl)) ?_
    refine thr_1 (fun vs _ => ∃ v, vs = [v, u64v (Rep.begin L.veh)]) ?_ ?_
    · refine nd_last (fun v w4 => Sl w4 1 v 1 (iv [s.veh])) (fun v a b hs hx => Sl.ext hs hx) (fun w4 m4 _ => ?_) fun v1 => ?_
      · refine lit_ints [s.veh] rfl (by decide) (by decide) rfl fun v w5 x5 h5 _ => ?_
        exact ⟨.of_ext x5, Sl.of_owns h5⟩
      · refine nd_last (fun v _ => v = u64v (Rep.begin L.veh)) (fun v a b hs hx => hs) (fun w4 m4 hsl => ?_) fun v2 => ?_
        · refine callF_ret (sum_int_ret (l := [s.veh]) (by intro m hm; rw [List.mem_singleton] at hm; subst hm; rw [h.1]; exact hok.1) w4 hsl (ht.ext ((x1.trans xW3).trans m4.new))) ?_
          rintro _ w5 ⟨rfl, x5⟩
          exact ⟨.of_ext x5, by rw [h.1]; rfl⟩
        · rintro w4 _ rfl
          exact ⟨v1, rfl⟩
    · rintro hh w4 m4 ⟨_, _, v1, e1⟩
      simp only [List.cons.injEq, and_true] at e1
      rw [e1.2]
      have x4 := (x1.trans xW3).trans m4.new
      refine callF_ret (carry_ret _ (fun e he => hok.2.2 e (List.mem_of_mem_take he)) w4 (Sl.ext hv' x4) (ht.ext x4)) ?_
      rintro _ w5 ⟨rfl, x5⟩
      refine hR _ _ ⟨?_, x4.trans x5⟩
      rw [Rep.chainV, if_pos hval]; rfl
  · have bad : ∀ W, Ext w1 W → ¬ (L.valid = true ∧ 0 ≤ last ∧ last ≤ L.ents.length) → R (.returned (.tuple #[.int .u64 0, .int .i64 1])) W := fun W xW hn => hR _ _ ⟨by rw [Rep.chainV, if_neg hn]; rfl, x1.trans xW⟩
    refine join_in fun K2 hK1 => ?_
    rw [SLog.g_all (hg w1 (Ext.refl _))]
    refine callF_ret ((h.ext x1).valid_ret hok) ?_
    rintro _ w2 ⟨rfl, x2⟩
    rw [un_not]
    refine Gd_i (fun hb => ?_) fun hb => leaf1 hK1 fun h hh => by rw [hh]; exact br_t (bad w2 x2 (by rintro ⟨e, _⟩; rw [e] at hb; cases hb))
    have hb : L.valid = true := by simpa using hb
    rw [bin_lss]
    refine Gd_i (fun hb1 => ?_) fun hb1 => leaf1 hK1 fun h hh => by rw [hh]; exact br_t (bad w2 x2 (by have := dec_t hb1; omega))
    rw [SLog.g_ents (hg w2 x2), SEntry.row_len (Sl.ext h.2.2 (x1.trans x2)), bin_gtr]
    refine leaf1 hK1 fun h hh => ?_
    rw [hh]
    refine Br_i (fun hb2 => bad w2 x2 (by have := dec_t hb2; omega)) fun hb2 => hK _ ⟨x2, hb, ?_⟩
    have := dec_f hb1; have := dec_f hb2
    omega
theorem hi_lt (d : BitVec 64) : 0 ≤ Rep.hi d ∧ Rep.hi d < 4294967296 := by have := d.isLt; unfold Rep.hi; omega
theorem lo_lt (d : BitVec 64) : 0 ≤ Rep.lo d ∧ Rep.lo d < 4294967296 := by unfold Rep.lo; omega
theorem shr32 (d : BitVec 64) : IntKind.i64.wrap ((d.toNat : Int).fdiv (2 ^ min (32 : Int).toNat IntKind.u64.bits)) = Rep.hi d := by
  have e : ((2 : Int) ^ min (32 : Int).toNat IntKind.u64.bits) = 4294967296 := by decide
  have h := hi_lt d
  have e2 : (d.toNat : Int).fdiv 4294967296 = Rep.hi d := by
    rw [Int.fdiv_eq_ediv_of_nonneg _ (by decide)]
    unfold Rep.hi; omega
  rw [e, e2, i64_wrap (by omega) (by omega)]
theorem and32 (d : BitVec 64) : IntKind.i64.wrap (IntKind.u64.wrap (BitVec.ofInt IntKind.u64.bits (d.toNat : Int) &&& BitVec.ofInt IntKind.u64.bits 4294967295).toNat) = Rep.lo d := by
  have e : (BitVec.ofInt IntKind.u64.bits (d.toNat : Int) &&& BitVec.ofInt IntKind.u64.bits 4294967295).toNat = d.toNat % 4294967296 := by
    have e1 : BitVec.ofInt IntKind.u64.bits (d.toNat : Int) = d := by
      apply BitVec.eq_of_toNat_eq
      have := d.isLt
      simp only [IntKind.bits, BitVec.toNat_ofInt]; omega
    have e2 : BitVec.ofInt IntKind.u64.bits 4294967295 = 4294967295#64 := rfl
    rw [e1, e2]
    show (d &&& (4294967295#64 : BitVec 64)).toNat = _
    rw [BitVec.toNat_and]
    exact Nat.and_two_pow_sub_one_eq_mod d.toNat 32
  have h := lo_lt d
  rw [e, u64w]
  unfold Rep.lo at h ⊢
  rw [show ((d.toNat % 4294967296 : Nat) : Int) % 18446744073709551616 = ((d.toNat % 4294967296 : Nat) : Int) by omega, i64_wrap (by omega) (by omega)]
theorem msg_ok {r : Rep.Rpt} (h : RepOk r) : SmallList (Rep.msg r) := by
  have b1 := hi_lt r.before; have b2 := lo_lt r.before; have b3 := hi_lt r.chain; have b4 := lo_lt r.chain
  have h5 := h.2.2.2.2
  refine ⟨fun n hn => ?_, by simp [Rep.msg]⟩
  rw [Rep.msg, List.mem_cons, List.mem_cons, List.mem_cons, List.mem_cons, List.mem_cons, List.mem_cons, List.mem_singleton] at hn
  rcases hn with hn | hn | hn | hn | hn | hn | hn
  · rw [hn]; exact h.1
  · rw [hn]; exact h.2.1
  all_goals (rw [hn]; unfold I64; omega)
theorem Ty.u64s : Tryz.prog.underlying 133 = some (.slice 61) := by kernel_rfl
theorem Ty.u64_info : (Tryz.prog.info? 61).map (fun i => (i.zero, i.size, i.bytes)) = some (some (.int .u64 0), 1, 8) := by kernel_rfl
theorem message_ret {s : SReport} {r : Rep.Rpt} (w : World) (h : RepIs w s r) : Ret Tryz.prog 85 #[.agg s.cells.toArray] w fun v w' => Sl w' 1 v (Rep.msg r).length (iv (Rep.msg r)) ∧ Ext w w' := by
  refine ret_of (fun _ _ => sh_report_message_ok _) fun R hR => ?_
  unfold sh_report_message
  refine box_i fun g w1 x1 hat _ _ => ?_
  have hg : ∀ W, Ext w1 W → Has W g 0 s.cells := fun W x => has_of_at (hat.ext x)
  have h1 := hg w1 (Ext.refl _)
  rw [SReport.g_veh h1, SReport.g_first h1, SReport.g_ents h1, SEntry.row_len (Sl.ext h.2.2.1 x1)]
  refine lit_ints [s.veh, s.first, (r.ents.length : Int)] rfl (by decide) (by decide) rfl fun v0 w2 x2 ho2 _ => ?_
  have h2 := hg w2 x2
  rw [SReport.g_before h2, SReport.g_chain h2]
  obtain ⟨i, hi, hz, hs, hby⟩ := Ty.info_parts Ty.u64_info
  refine litn_i [u64v s.before, u64v s.chain] Ty.u64s hi hs hz (by intro v hv; simp at hv; rcases hv with rfl | rfl <;> rfl) rfl (by decide) (by decide) rfl fun vd w3 x3 ho3 _ => ?_
  have hsd := Sl.of_owns ho3
  rw [hsd.len Ty.u64s]
  have hd : [s.before, s.chain] = [r.before, r.chain] := by rw [h.2.2.2.1, h.2.2.2.2.1]
  have part : ∀ k, (Rep.msg r).take (3 + 2 * k) = [s.veh, s.first, (r.ents.length : Int)] ++ ([s.before, s.chain].take k).flatMap fun d => [Rep.hi d, Rep.lo d] := fun k => by
    rw [hd, h.1, h.2.1]
    match k with
    | 0 => rfl
    | 1 => rfl
    | 2 => rfl
    | k + 3 => rw [List.take_of_length_le (by simp [Rep.msg]; omega), List.take_of_length_le (by simp)]; rfl
  refine loop2 (fun y x W => ∃ k : Nat, k ≤ 2 ∧ x = .int .i64 k ∧ Ext w1 W ∧ W.ownsRow w2.heap.size 61 1 vd 2 [u64v s.before, u64v s.chain] ∧ W.ownsRow w1.heap.size 3 1 y ((Rep.msg r).take (3 + 2 * k)).length (iv ((Rep.msg r).take (3 + 2 * k)))) (fun _ x _ => 2 - (intOf x).toNat)
    ⟨0, by omega, rfl, x2.trans x3, ho3, by rw [part 0]; exact Own.ext ho2 x3⟩ ?_
  rintro hh _ _ W hy hx ⟨k, hk, rfl, xW, hovd, hown⟩ K hK
  rw [hx, bin_lss]
  refine Br_i (fun hb => ?_) fun hb => ?_
  · have hlt : k < 2 := by have := dec_t hb; omega
    obtain ⟨d, hdk⟩ : ∃ d, [s.before, s.chain][k]? = some d := ⟨_, List.getElem?_eq_getElem (by simpa using hlt)⟩
    obtain ⟨b, o, hc, hbl, hix⟩ := (Sl.of_owns hovd).index Ty.u64s hi hs (k := .i64) hlt (by decide)
    have hcell : W.cell? ⟨b, o + k * 1, none⟩ = some (u64v d) := cell_ext (by rw [Nat.mul_one]; exact hc k _ (by
      match k, hlt with
      | 0, _ => cases hdk; rfl
      | 1, _ => cases hdk; rfl)) hbl (Ext.refl _)
    rw [hix, load_cell Ty.u64_agg hcell, u64v, bin_shr (by decide), conv_int Ty.u64 Ty.int, shr32, bin_and, conv_int Ty.u64 Ty.int, and32]
    refine lit_ints [Rep.hi d, Rep.lo d] rfl (by decide) (by decide) rfl fun v4 w4 x4 ho4 _ => ?_
    rw [hy]
    have hl7 : (Rep.msg r).length = 7 := rfl
    refine app_ints (m := [Rep.hi d, Rep.lo d]) (Own.ext hown x4) (Sl.of_owns ho4) (by rw [List.length_take]; simp; omega) (by have := xW.size; have := x4.size; omega) fun v5 w5 ho5 m5 => ?_
    rw [bin_add, i64_wrap (by omega) (by omega)]
    have x5 : Ext w1 w5 := ((Mod.of_ext (xW.trans x4) : Mod (w1.heap.size ≤ ·) w1 w4).trans (m5.mono fun j _ hj => (Own.block (Own.ext hown x4) hj).1)).new
    refine hK _ _ _ ⟨k + 1, by omega, by simp, x5, ?_, ?_⟩ (by simp [intOf]; omega)
    · exact Own.mod (Own.ext hovd x4) m5 (Own.off_own (Own.ext hown x4) (Own.ext hovd x4) (by decide))
    · have e : (Rep.msg r).take (3 + 2 * (k + 1)) = (Rep.msg r).take (3 + 2 * k) ++ [Rep.hi d, Rep.lo d] := by
        rw [part, part]
        match k, hlt with
        | 0, _ => cases hdk; rfl
        | 1, _ => cases hdk; rfl
      rw [e]
      exact ho5
  · have hk2 : k = 2 := by have := dec_f hb; omega
    subst hk2
    rw [hy]
    have e : (Rep.msg r).take (3 + 2 * 2) = Rep.msg r := rfl
    rw [e] at hown
    exact hR _ _ ⟨Sl.of_owns hown, x1.trans xW⟩
end Go.Proofs.YtoeblipchoglaaaGreatDoor
namespace Go.Proofs.YtoeblipchoglaaaGreatDoor
set_option maxRecDepth 100000
set_option maxHeartbeats 8000000
open Sh Go.RowKit
theorem has_sub {w : World} {b o d o' : Nat} {cs xs : List Value} (h : Has w b o cs) (ho : o' = o + d) (hx : (cs.drop d).take xs.length = xs) : Has w b o' xs := fun j u hu => has_part h ho hx hu
theorem bin_eqv {x y : BitVec 64} {K : Value → World → Prop} {X : List PanicEntry → World → Prop} {t : TypeId} {ox oy : Operand} {w : World} {P : Program} : DoV P (binS .eql t ox oy (u64v x) (u64v y)) w K X = K (.bool (decide (x = y))) w := by
  rw [u64v, u64v, bin_eql]
  congr 2
  rw [decide_eq_decide]
  exact ⟨fun h => BitVec.eq_of_toNat_eq (by omega), fun h => by rw [h]⟩
def CheckQ (r : Rep.Rpt) (p : Int) (w : World) (v : Value) (w' : World) : Prop := v = .tuple #[.bool (Rep.checkV r p).1, .int .i64 (Rep.checkV r p).2] ∧ Ext w w'
theorem Check_ret {s : SReport} {r : Rep.Rpt} {p : Int} (hok : RepOk r) (w : World) (h : RepIs w s r) (ht : Tab w) : Ret Tryz.prog 59 #[.agg s.cells.toArray, .int .i64 p] w (CheckQ r p w) := by
  refine ret_of (fun _ _ => sh_report_Check_ok _ _) fun R hR => ?_
  unfold sh_report_Check
  refine box_i fun g w1 x1 hat _ _ => ?_
  have hg : ∀ W, Ext w1 W → Has W g 0 s.cells := fun W x => has_of_at (hat.ext x)
  have hm := msg_ok hok
  rw [SReport.g_ents (hg w1 (Ext.refl _))]
  refine join0 (fun W => Ext w1 W ∧ Rep.okR r = true) ?_ fun K hK => ?_
  · rintro _ W ⟨xW, hval⟩
    have xW0 := x1.trans xW
    refine drawR1 fun w3 x3 hs3 => ?_
    have xW3 := xW.trans x3
    refine det_r1 _ (fun w4 m4 K => Ty.SReport_f5) ?_
    refine det_r1 (.agg s.sig.cells.toArray) (fun w4 m4 K => SSig.g_all (has_sub (hg w4 (xW3.trans m4.new)) (d := 5) (xs := s.sig.cells) (o' := 5) rfl rfl)) ?_
    refine det_r1 (.agg s.cells.toArray) (fun w4 m4 K => SReport.g_all (hg w4 (xW3.trans m4.new))) ?_
    have ev : ∀ w4, Mod (w3.heap.size ≤ ·) w3 w4 → Ext w w4 := fun w4 m4 => (x1.trans xW3).trans m4.new
    refine thr_1 (fun vs _ => ∃ v1 v2 v3, vs = [v1, v2, v3, .bool (Sig.verV p r.sig (Rep.msg r)).1, .int .i64 (Sig.verV p r.sig (Rep.msg r)).2, .bool (Sig.verV p r.sig (Rep.msg r)).1]) ?_ ?_
    · refine nd_last (fun v w4 => Sl w4 1 v (Rep.msg r).length (iv (Rep.msg r))) (fun v a b hs hx => Sl.ext hs hx) (fun w4 m4 _ => ?_) fun v1 => ?_
      · refine callF_ret (message_ret w4 (h.ext (ev w4 m4))) ?_
        rintro _ w5 ⟨h5, x5⟩
        exact ⟨.of_ext x5, h5⟩
      refine nd_last (fun v _ => v = .tuple #[.bool (Sig.verV p r.sig (Rep.msg r)).1, .int .i64 (Sig.verV p r.sig (Rep.msg r)).2]) (fun v a b hs hx => hs) (fun w4 m4 hsl => ?_) fun v2 => ?_
      · rw [h.2.2.2.2.2]
        refine callF_ret (Verify_ret hm w4 hsl (ht.ext (ev w4 m4))) ?_
        rintro _ w5 ⟨rfl, x5⟩
        exact ⟨.of_ext x5, rfl⟩
      refine nd_last (fun v _ => v = .tuple #[.bool (Sig.verV p r.sig (Rep.msg r)).1, .int .i64 (Sig.verV p r.sig (Rep.msg r)).2]) (fun v a b hs hx => hs) (fun w4 m4 hsl => ⟨Mod.refl _ _, hsl⟩) fun v3 => ?_
      refine nd_last (fun v _ => v3 = .tuple #[.bool (Sig.verV p r.sig (Rep.msg r)).1, .int .i64 (Sig.verV p r.sig (Rep.msg r)).2] ∧ v = .bool (Sig.verV p r.sig (Rep.msg r)).1) (fun v a b hs hx => hs) (fun w4 m4 hsl => by rw [hsl, ext_tuple rfl]; exact ⟨Mod.refl _ _, rfl, rfl⟩) fun v4 => ?_
      refine nd_last (fun v _ => v4 = .bool (Sig.verV p r.sig (Rep.msg r)).1 ∧ v = .int .i64 (Sig.verV p r.sig (Rep.msg r)).2) (fun v a b hs hx => hs) (fun w4 m4 hsl => by rw [hsl.1, ext_tuple rfl]; exact ⟨Mod.refl _ _, hsl.2, rfl⟩) fun v5 => ?_
      refine nd_last (fun v _ => v4 = .bool (Sig.verV p r.sig (Rep.msg r)).1 ∧ v5 = .int .i64 (Sig.verV p r.sig (Rep.msg r)).2 ∧ v = .bool (Sig.verV p r.sig (Rep.msg r)).1) (fun v a b hs hx => hs) (fun w4 m4 hsl => ⟨Mod.refl _ _, hsl.1, hsl.2, hsl.1⟩) fun v6 => ?_
      rintro w4 _ ⟨rfl, rfl, rfl⟩
      exact ⟨v1, v2, v3, rfl⟩
    · rintro hh w4 m4 ⟨_, _, v1, v2, v3, e1⟩
      simp only [List.cons.injEq, and_true] at e1
      rw [e1.2.2.2.2.2, e1.2.2.2.2.1]
      have x4 := ev w4 m4
      have x14 := xW3.trans m4.new
      refine draw_ext fun w6 x6 => ?_
      refine Gd_i (fun hb => ?_) fun hb => ?_
      · refine det_read _ (fun w7 x7 K => Ty.SReport_f3) ?_
        refine det_read (u64v s.before) (fun w7 x7 K => load_cell Ty.u64_agg (has_at (hg w7 ((x14.trans x6).trans x7)) (d := 3) rfl rfl)) ?_
        refine det_ret _ (fun w7 x7 => carry_ret _ hok.2.2.1 w7 (Sl.ext h.2.2.1 ((x4.trans x6).trans x7)) (ht.ext ((x4.trans x6).trans x7))) ?_
        refine det_read _ (fun w7 x7 K => Ty.SReport_f4) ?_
        refine det_read (u64v s.chain) (fun w7 x7 K => load_cell Ty.u64_agg (has_at (hg w7 ((x14.trans x6).trans x7)) (d := 4) rfl rfl)) ?_
        refine det_read _ (fun w7 x7 K => bin_eqv) ?_
        intro w7 x7 _
        refine hR _ _ ⟨?_, (x4.trans x6).trans x7⟩
        rw [Rep.checkV, if_pos hval, hb, h.2.2.2.1, h.2.2.2.2.1]; rfl
      · intro w7 x7 _
        refine hR _ _ ⟨?_, (x4.trans x6).trans x7⟩
        rw [Rep.checkV, if_pos hval, hb]; rfl
  · have bad : ∀ W, Ext w1 W → Rep.okR r = false → R (.returned (.tuple #[.bool false, .int .i64 1])) W := fun W xW hn => hR _ _ ⟨by rw [Rep.checkV, if_neg (by rw [hn]; decide)], x1.trans xW⟩
    refine join_in fun K2 hK1 => ?_
    rw [SReport.g_veh (hg w1 (Ext.refl _))]
    refine callF_same (isID_ret _ w1) ?_
    rw [un_not, h.1]
    refine Gd_i (fun hb => ?_) fun hb => leaf1 hK1 fun h hh => by rw [hh]; exact br_t (bad w1 (Ext.refl _) (by rw [Rep.okR, show Rep.isID r.veh = false by simpa using hb]; rfl))
    have hb : Rep.isID r.veh = true := by simpa using hb
    rw [(Sl.ext h.2.2.1 x1).len Ty.ents_und, bin_eql]
    refine Gd_i (fun hb1 => ?_) fun hb1 => leaf1 hK1 fun h hh => by rw [hh]; exact br_t (bad w1 (Ext.refl _) (by rw [Rep.okR, hb, show decide (0 < r.ents.length) = false by have := dec_t hb1; rw [decide_eq_false_iff_not]; omega]; rfl))
    have e2 : decide (0 < r.ents.length) = true := by have := dec_f hb1; rw [decide_eq_true_eq]; omega
    rw [SReport.g_first (hg w1 (Ext.refl _))]
    refine callF_ret (follow_ret _ w1 (Sl.ext h.2.2.1 x1)) ?_
    rintro _ w2 ⟨rfl, x2⟩
    rw [un_not, h.2.1]
    refine leaf1 hK1 fun h hh => ?_
    rw [hh]
    have e3 : Rep.okR r = Rep.follows r.ents r.first := by rw [Rep.okR, hb, e2]; rfl
    exact Br_i (fun hb2 => bad w2 x2 (by rw [e3]; simpa using hb2)) fun hb2 => hK _ ⟨x2, by rw [e3]; simpa using hb2⟩
end Go.Proofs.YtoeblipchoglaaaGreatDoor
namespace Go.Proofs.YtoeblipchoglaaaGreatDoor
set_option maxRecDepth 100000
set_option maxHeartbeats 8000000
open Sh Go.RowKit
section draw
variable {P : Program} {X : List PanicEntry → World → Prop}
theorem drawRX {w : World} {body : (World → World → Prop) → (Nat → World → World → Prop) → World → Prop} (h : ∀ w0, Ext w w0 → w0.heap.size = w.heap.size → body Ext (fun _ => Ext) w0) : DrawR w body :=
  ⟨_, _, ⟨Ext.refl, fun _ _ _ => Ext.trans, fun _ => Ext.refl, fun _ _ _ _ => Ext.trans⟩, h w.drew (Ext.drew w) rfl⟩
theorem det_rx {w0 : World} {op : World → (Value → World → Prop) → Prop} {rest : Value → (World → Prop) → Prop} (c : Value) (h : ∀ w1, Ext w0 w1 → ∀ K : Value → World → Prop, op w1 K = K c w1) (hk : rest c fun _ => True) : DetOp Ext (Both Ext fun _ => Ext) w0 op rest :=
  det_pure c (fun a => ⟨Ext.refl a, fun _ => Ext.refl a⟩) (fun w1 h1 K hk => by rw [h w1 h1 K]; exact hk) hk
theorem nd_x {t : Nat} {w0 : World} {Θ : World → Prop} {op : World → (Value → World → Prop) → Prop} {rest : Value → (World → Prop) → Prop} (φ : Value → World → Prop) (hs : ∀ v a b, φ v a → Ext a b → φ v b) (hop : ∀ w1, Ext w0 w1 → Θ w1 → op w1 fun v w2 => Ext w1 w2 ∧ φ v w2) (hk : ∀ v, rest v (φ v)) : NdC Ext (fun _ => Ext) t w0 Θ op rest :=
  ⟨φ, hs, fun w1 h1 hΘ => by
    have := hop w1 h1 hΘ
    have e : (fun (v : Value) (w2 : World) => Ext w1 w2 ∧ φ v w2) = fun v w2 => (Ext w1 w2 ∧ ∀ u, u ≠ t → Ext w1 w2) ∧ φ v w2 := by
      funext v w2
      exact propext ⟨fun h => ⟨⟨h.1, fun _ _ => h.1⟩, h.2⟩, fun h => ⟨h.1.1, h.2⟩⟩
    rw [e] at this
    exact this, hk⟩
theorem thr_x {t : Nat} {w0 : World} {chain : (World → Prop) → (List Value → (World → Prop) → Prop) → Prop} {rest : (List Value → World → Prop) → Prop} (Φ : List Value → World → Prop) (hc : chain (fun _ => True) fun vs Θ => ∀ w1, Ext w0 w1 → Θ w1 → Φ vs w1) (hk : rest Φ) : ThrE Ext (fun _ => Ext) t w0 chain rest :=
  ⟨fun _ => True, Φ, trivial, fun _ _ _ _ => trivial, hc, hk⟩
end draw
theorem slnil_run (a : Option Addr) (n c : Nat) (w : World) : (binS .eql 23 (.tmp 3) (.const (.slice none 0 0)) (.slice a n c) (.slice none 0 0)).run Tryz.prog w = .ok (.bool a.isNone) w := by
  cases a with
  | none => kernel_rfl
  | some a => kernel_rfl
theorem bin_slnil {w : World} {K : Value → World → Prop} {X : List PanicEntry → World → Prop} {a : Option Addr} {n c : Nat} :
    DoV Tryz.prog (binS .eql 23 (.tmp 3) (.const (.slice none 0 0)) (.slice a n c) (.slice none 0 0)) w K X = K (.bool a.isNone) w := DoV_ok (slnil_run a n c w)
theorem ext2_0 {P : Program} {w : World} {K : Value → World → Prop} {X : List PanicEntry → World → Prop} {a b : Value} : DoV P (Instr.extract (.tuple #[a, b]) 0) w K X = K a w := ext_tuple rfl
theorem ext2_1 {P : Program} {w : World} {K : Value → World → Prop} {X : List PanicEntry → World → Prop} {a b : Value} : DoV P (Instr.extract (.tuple #[a, b]) 1) w K X = K b w := ext_tuple rfl
theorem Clone_ret {v : Value} {l : List SEntry} (w : World) (h : SEntry.Row w v l) (hl : l.length < 100000000) : Ret Tryz.prog 35 #[v] w fun r w' => SEntry.Owns w.heap.size w' r l ∧ Ext w w' := by
  refine ret_of (fun _ _ => sh_slices_Clone___api_Entry_api_Entry__ok _) fun R hR => ?_
  unfold sh_slices_Clone___api_Entry_api_Entry_
  obtain ⟨a, c, rfl, hr⟩ := id h
  rw [bin_slnil]
  refine Br_i (fun hb => ?_) fun hb => ?_
  · cases a with
    | some _ => cases hb
    | none =>
      rcases hr.2.2.2 with h0 | ⟨_, _, h0, _⟩
      · have hl0 : l = [] := by
          cases l with
          | nil => rfl
          | cons x l => rw [fl_cons] at h0; have := SEntry.len x; rw [(List.append_eq_nil_iff.1 h0).1] at this; cases this
        subst hl0
        exact hR _ _ ⟨SEntry.owns_nil _ _, Ext.refl _⟩
      · cases h0
  · refine SEntry.row_lit0 fun v1 w1 x1 ho1 hs1 => ?_
    refine SEntry.row_apps ho1 (Sl.ext h x1) (by simp; omega) (by omega) fun v2 w2 ho2 m2 => ?_
    refine hR _ _ ⟨ho2, ?_⟩
    exact ((Mod.of_ext x1 : Mod (w.heap.size ≤ ·) w w1).trans (m2.mono fun k _ hk => (Own.block ho1 hk).1)).new
namespace Rep
end Rep
end Go.Proofs.YtoeblipchoglaaaGreatDoor
namespace Go.Proofs.YtoeblipchoglaaaGreatDoor
set_option maxRecDepth 100000
set_option maxHeartbeats 8000000
open Sh Go.RowKit
theorem SameEntries_ret {v u : Value} {l m : List SEntry} (w : World) (hv : SEntry.Row w v l) (hu : SEntry.Row w u m) : Ret Tryz.prog 13 #[v, u] w fun r w' => r = .bool (decide (l = m)) ∧ Ext w w' := by
  refine ret_of (fun _ _ => sh_landfallref24_SameEntries_ok _ _) fun R hR => ?_
  unfold sh_landfallref24_SameEntries
  have hle := hv.le
  rw [SEntry.row_len hv, SEntry.row_len hu, bin_neq]
  refine Br_i (fun hb => hR _ _ ⟨?_, Ext.refl _⟩) fun hb => ?_
  · have hne : ¬ (l.length : Int) = m.length := by simpa using hb
    rw [decide_eq_false (by rintro rfl; exact hne rfl)]
  have heq : l.length = m.length := by have : (l.length : Int) = m.length := by simpa using hb
                                       omega
  refine loop1 (fun x W => ∃ k : Nat, k ≤ l.length ∧ x = .int .i64 k ∧ Ext w W ∧ l.take k = m.take k) (fun x _ => l.length - (intOf x).toNat) ⟨0, by omega, rfl, Ext.refl _, rfl⟩ ?_
  rintro hh _ W hx ⟨k, hk, rfl, xW, heqk⟩ K hK
  rw [SEntry.row_len (Sl.ext hv xW), hx, bin_lss]
  refine Br_i (fun hb2 => ?_) fun hb2 => ?_
  · have hlt : k < l.length := by have := dec_t hb2; omega
    obtain ⟨b1, o1, hh1, _, hix1⟩ := SEntry.row_at hv hlt
    obtain ⟨b2, o2, hh2, _, hix2⟩ := SEntry.row_at hu (show k < m.length by omega)
    refine draw_ext fun w3 x3 => ?_
    refine det_read _ (fun w4 x4 K => hix1 w4 K _) ?_
    refine det_read (.agg l[k].cells.toArray) (fun w4 x4 K => SEntry.g_all (hh1 w4 ((xW.trans x3).trans x4))) ?_
    refine det_read _ (fun w4 x4 K => hix2 w4 K _) ?_
    refine det_read (.agg m[k].cells.toArray) (fun w4 x4 K => SEntry.g_all (hh2 w4 ((xW.trans x3).trans x4))) ?_
    intro w4 x4 _
    rw [SEntry.neq]
    have x04 := (xW.trans x3).trans x4
    refine Br_i (fun hb3 => hR _ _ ⟨?_, x04⟩) fun hb3 => ?_
    · have hne : ¬ l[k] = m[k] := by simpa using hb3
      rw [decide_eq_false (by rintro rfl; exact hne rfl)]
    · have he : l[k] = m[k] := by simpa using hb3
      rw [bin_add, i64_wrap (by omega) (by omega)]
      refine hK _ _ ⟨k + 1, by omega, by simp, x04, ?_⟩ (by simp [intOf]; omega)
      rw [List.take_succ_eq_append_getElem hlt, List.take_succ_eq_append_getElem (show k < m.length by omega), heqk, he]
  · have hge : l.length ≤ k := by have := dec_f hb2; omega
    refine hR _ _ ⟨?_, xW⟩
    rw [List.take_of_length_le hge, List.take_of_length_le (by omega)] at heqk
    rw [heqk, decide_eq_true rfl]
noncomputable instance : DecidableEq Rep.Rpt := fun _ _ => Classical.propDecidable _
end Go.Proofs.YtoeblipchoglaaaGreatDoor
namespace Go.Proofs.YtoeblipchoglaaaGreatDoor
set_option maxRecDepth 100000
set_option maxHeartbeats 4000000
open Sh Go.RowKit
namespace Rep
theorem good_iff {l : List SEntry} {f : Int} {i : Nat} : good l f i = true ↔ formed (el l i) = true ∧ (el l i).seq = IntKind.i64.wrap (f + i) ∧ (0 < i → (el l (i - 1)).time ≤ (el l i).time) := by
  simp only [good, Bool.and_eq_true, decide_eq_true_eq, Bool.or_eq_true, Bool.not_eq_true', decide_eq_false_iff_not]
  constructor
  · rintro ⟨h1, h2, h3⟩
    exact ⟨h1, h2, fun h => h3.resolve_left fun hn => hn h⟩
  · rintro ⟨h1, h2, h3⟩
    exact ⟨h1, h2, by by_cases h : 0 < i
                      · exact .inr (h3 h)
                      · exact .inl h⟩
theorem follows_iff {l : List SEntry} {f : Int} : follows l f = true ↔ l.length ≤ 2000 ∧ ∀ i, i < l.length → good l f i = true := by
  simp only [follows, Bool.and_eq_true, List.all_eq_true, List.mem_range, decide_eq_true_eq]
  exact ⟨fun ⟨h1, h2⟩ => ⟨h2, h1⟩, fun ⟨h1, h2⟩ => ⟨h2, h1⟩⟩
theorem el_part {l : List SEntry} {j k i : Nat} (h : j + i < k) : el ((l.take k).drop j) i = el l (j + i) := by
  simp only [el, List.getElem?_drop, List.getElem?_take, if_pos h]
theorem follows_part {l : List SEntry} (h : follows l 1 = true) {j k : Nat} (hk : k ≤ l.length) : follows ((l.take k).drop j) ((j : Int) + 1) = true := by
  rw [follows_iff] at h ⊢
  have hlen : ((l.take k).drop j).length = k - j := by simp only [List.length_drop, List.length_take]; omega
  refine ⟨by omega, fun i hi => ?_⟩
  rw [hlen] at hi
  have hg := good_iff.1 (h.2 (j + i) (by omega))
  rw [good_iff, el_part (by omega)]
  refine ⟨hg.1, by rw [hg.2.1]; congr 1; omega, fun hp => ?_⟩
  rw [el_part (by omega)]
  have := hg.2.2 (by omega)
  rw [show j + (i - 1) = j + i - 1 by omega]; exact this
theorem follows_take {l : List SEntry} (h : follows l 1 = true) {k : Nat} (hk : k ≤ l.length) : follows (l.take k) 1 = true := by
  have := follows_part h (j := 0) hk
  simpa using this
theorem el_snoc {l : List SEntry} {x : SEntry} {i : Nat} (h : i < l.length) : el (l ++ [x]) i = el l i := by
  simp only [el, List.getElem?_append_left h]
theorem el_last {l : List SEntry} {x : SEntry} : el (l ++ [x]) l.length = x := by simp [el]
theorem follows_snoc {l : List SEntry} {x : SEntry} {f : Int} (hl : follows l f = true) (hn : l.length < 2000) (hf : 1 ≤ f) (hf2 : f ≤ 1000000) :
    follows (l ++ [x]) f = (formed x && (decide (x.seq = f + l.length) && (decide (l.length = 0) || decide ((el l (l.length - 1)).time ≤ x.time)))) := by
  rw [Bool.eq_iff_iff, follows_iff]
  have hl := follows_iff.1 hl
  simp only [Bool.and_eq_true, decide_eq_true_eq, Bool.or_eq_true]
  have hw : IntKind.i64.wrap (f + l.length) = f + l.length := i64_wrap (by omega) (by omega)
  constructor
  · rintro ⟨_, h⟩
    have hg := good_iff.1 (h l.length (by simp))
    rw [el_last, hw] at hg
    refine ⟨hg.1, hg.2.1, ?_⟩
    by_cases h0 : l.length = 0
    · exact .inl h0
    · right
      have := hg.2.2 (by omega)
      rwa [el_snoc (by omega)] at this
  · rintro ⟨h1, h2, h3⟩
    refine ⟨by simp; omega, fun i hi => ?_⟩
    have hi : i < l.length + 1 := by simpa using hi
    by_cases hlt : i < l.length
    · have hg := good_iff.1 (hl.2 i hlt)
      rw [good_iff, el_snoc hlt]
      exact ⟨hg.1, hg.2.1, fun hp => by rw [el_snoc (by omega)]; exact hg.2.2 hp⟩
    · have hi2 : i = l.length := by omega
      subst hi2
      rw [good_iff, el_last, hw]
      refine ⟨h1, h2, fun hp => ?_⟩
      rw [el_snoc (by omega)]
      exact h3.resolve_left (by omega)
theorem carry_append (d : BitVec 64) (a b : List SEntry) : carry d (a ++ b) = carry (carry d a) b := by simp only [carry, List.foldl_append]
theorem valid_fol {L : Lg} (h : L.valid = true) : follows L.ents 1 = true := by
  simp only [Lg.valid, valid, Bool.and_eq_true] at h; exact h.2.2.2
theorem valid_with {L : Lg} (h : L.valid = true) (es : List SEntry) : Lg.valid ⟨L.veh, L.rs, es⟩ = follows es 1 := by
  simp only [Lg.valid, valid, Bool.and_eq_true] at h ⊢
  rw [h.1, h.2.1, h.2.2.1]; rfl
def turned (n : Int) (b : Int) : Int := if n < 0 then n else n - n % 10 + (n % 10 + 1 + b % 9) % 10
end Rep
end Go.Proofs.YtoeblipchoglaaaGreatDoor
namespace Go.Proofs.YtoeblipchoglaaaGreatDoor
set_option maxRecDepth 100000
set_option maxHeartbeats 8000000
open Sh Go.RowKit
theorem Few_ret {s : SLog} {L : Rep.Lg} (w : World) (h : LogIs w s L) : Ret Tryz.prog 25 #[.agg s.cells.toArray] w fun r w' => (∃ b, r = .bool b ∧ (b = true → L.ents.length ≤ 40)) ∧ Ext w w' := by
  refine ret_of (fun _ _ => sh_landfallref24_Few_ok _) fun R hR => ?_
  unfold sh_landfallref24_Few
  refine box_i fun g w1 x1 hat _ _ => ?_
  rw [SLog.g_start (has_of_at hat)]
  refine callF_ret (refRegionFew_ret w1 (h.2.1.ext x1)) ?_
  rintro _ w2 ⟨⟨b, rfl, _⟩, x2⟩
  refine Gd_i (fun hb => ?_) fun hb => hR _ _ ⟨⟨_, rfl, fun h => by cases h⟩, x1.trans x2⟩
  rw [SLog.g_ents (has_of_at (At.ext hat x2)), SEntry.row_len (Sl.ext h.2.2 (x1.trans x2)), bin_leq]
  exact hR _ _ ⟨⟨_, rfl, fun h => by have := of_decide_eq_true h; omega⟩, x1.trans x2⟩
theorem new_span (a b : Int) : Tryz.prog.built 36 [(0, .int .i64 a), (1, .int .i64 b)] = some #[.int .i64 a, .int .i64 b] := by kernel_rfl
end Go.Proofs.YtoeblipchoglaaaGreatDoor
namespace Go.Proofs.YtoeblipchoglaaaGreatDoor
set_option maxRecDepth 100000
set_option maxHeartbeats 8000000
open Sh Go.RowKit
theorem new_log (v : Int) (d e : Hdr) : Tryz.prog.built 25 [(0, .int .i64 v), (1, d.val), (2, e.val)] = some (SLog.mk v d e).cells.toArray := by kernel_rfl
end Go.Proofs.YtoeblipchoglaaaGreatDoor
namespace Go.Proofs.YtoeblipchoglaaaGreatDoor
set_option maxRecDepth 100000
set_option maxHeartbeats 8000000
open Sh Go.RowKit
section vars
variable {w : World} {K : Value → World → Prop} {X1 X2 : List PanicEntry → World → Prop}
theorem SReport.var {g : SReport} (hk : ∀ b w2, Ext w w2 → At w2 b (.cells g.cells.toArray 97 (0, 0)) → w.heap.size ≤ b → K (.pointer (some ⟨b, 0, none⟩)) w2) :
    DoV Tryz.prog (Instr.alloc 97 true (.tuple #[])) w (fun t w1 => DoU Tryz.prog (Instr.storeAt 97 t (.agg g.cells.toArray)) w1 (fun _ w2 => K t w2) X1) X2 := by
  refine alloc_i Ty.SReport_zero fun b w1 x1 hat hb _ => ?_
  refine SReport.set (r := SReport.zero) hat fun w2 m2 h2 _ => ?_
  exact hk _ _ ((Mod.of_ext x1 : Mod (w.heap.size ≤ ·) w w1).trans (m2.mono fun k _ h => by omega)).new h2 (by omega)
theorem SLog.var {g : SLog} (hk : ∀ b w2, Ext w w2 → At w2 b (.cells g.cells.toArray 25 (0, 0)) → w.heap.size ≤ b → K (.pointer (some ⟨b, 0, none⟩)) w2) :
    DoV Tryz.prog (Instr.alloc 25 true (.tuple #[])) w (fun t w1 => DoU Tryz.prog (Instr.storeAt 25 t (.agg g.cells.toArray)) w1 (fun _ w2 => K t w2) X1) X2 := by
  refine alloc_i Ty.SLog_zero fun b w1 x1 hat hb _ => ?_
  refine SLog.set (r := SLog.zero) hat fun w2 m2 h2 _ => ?_
  exact hk _ _ ((Mod.of_ext x1 : Mod (w.heap.size ≤ ·) w w1).trans (m2.mono fun k _ h => by omega)).new h2 (by omega)
theorem SEntry.var {g : SEntry} (hk : ∀ b w2, Ext w w2 → At w2 b (.cells g.cells.toArray 38 (0, 0)) → w.heap.size ≤ b → K (.pointer (some ⟨b, 0, none⟩)) w2) :
    DoV Tryz.prog (Instr.alloc 38 true (.tuple #[])) w (fun t w1 => DoU Tryz.prog (Instr.storeAt 38 t (.agg g.cells.toArray)) w1 (fun _ w2 => K t w2) X1) X2 := by
  refine alloc_i Ty.SEntry_zero fun b w1 x1 hat hb _ => ?_
  refine SEntry.set (r := SEntry.zero) hat fun w2 m2 h2 _ => ?_
  exact hk _ _ ((Mod.of_ext x1 : Mod (w.heap.size ≤ ·) w w1).trans (m2.mono fun k _ h => by omega)).new h2 (by omega)
end vars
theorem ext_step {w w1 w2 : World} {b : Nat} (h : Ext w w1) (m : Mod (· = b) w1 w2) (hb : w.heap.size ≤ b) : Ext w w2 :=
  ((Mod.of_ext h : Mod (w.heap.size ≤ ·) w w1).trans (m.mono fun k _ h => by omega)).new
namespace Rep
theorem check_bad {r : Rpt} {p : Int} (hr : okR r = false) : checkV r p = (false, 1) := by rw [checkV, if_neg (by rw [hr]; decide)]
end Rep
theorem LogIs.zero (w : World) : LogIs w SLog.zero ⟨0, [], []⟩ := ⟨rfl, RL.nil _, SEntry.row_nil _⟩
theorem nolog_ok : LogOk ⟨0, [], []⟩ := ⟨by show I64 0; unfold I64; decide, fun l hl => by simp at hl, fun e he => by simp at he⟩
end Go.Proofs.YtoeblipchoglaaaGreatDoor
