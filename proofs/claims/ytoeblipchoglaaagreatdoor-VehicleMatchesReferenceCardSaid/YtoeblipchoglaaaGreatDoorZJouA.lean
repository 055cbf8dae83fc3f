/- The plain law of the journal: records and their integers, what is loaded. -/
import Derived.Test.YtoeblipchoglaaaGreatDoorZStrA
import Derived.Test.YtoeblipchoglaaaGreatDoorZCodA
import Derived.Test.YtoeblipchoglaaaGreatDoorZT1
import Derived.Test.YtoeblipchoglaaaGreatDoorZBaseA
import Derived.Defers
import Derived.Recover
namespace Go.Proofs.YtoeblipchoglaaaGreatDoor
set_option maxRecDepth 100000
namespace Jou
def form (r : SRecord) : Bool :=
  if r.kind = 1 then decide (1 ≤ r.entry.seq) && (decide (r.entry.seq ≤ 2000) && (decide (r.seq = 0) && decide (r.chain = 0#64)))
  else decide (r.kind = 2) && (decide (0 ≤ r.seq) && (decide (r.seq ≤ 2000) && decide (r.entry = SEntry.zero)))
def eints (e : SEntry) : List Int := [e.seq, e.time, e.kind, e.sensor, e.ref, e.a, e.n, e.value.lo, e.value.hi, e.temp, e.age, e.since]
def ints (r : SRecord) : List Int :=
  if r.kind = 2 then [r.kind, r.seq, ((r.chain.toNat / 4294967296 : Nat) : Int), ((r.chain.toNat % 4294967296 : Nat) : Int)]
  else r.kind :: eints r.entry
def isHalf (n : Int) : Bool := decide (0 ≤ n) && decide (n < 4294967296)
def chainOf (h l : Int) : BitVec 64 := BitVec.ofNat 64 (h.toNat * 4294967296 + l.toNat)
def entRec (k s t kd se rf a n lo hi te ag si : Int) : SRecord := ⟨k, ⟨s, t, kd, se, rf, a, n, ⟨lo, hi⟩, te, ag, si⟩, 0, 0⟩
def chkRec (k s h l : Int) : SRecord := ⟨k, SEntry.zero, s, chainOf h l⟩
def raw (l : List Int) : Option SRecord :=
  match l with
  | [k, s, h, c] => if k = 2 ∧ isHalf h = true ∧ isHalf c = true then some (chkRec k s h c) else none
  | [k, s, t, kd, se, rf, a, n, lo, hi, te, ag, si] => if k = 2 then none else some (entRec k s t kd se rf a n lo hi te ag si)
  | _ => none
def rec_ (l : List Int) : Option SRecord := (raw l).bind fun r => if form r = true then some r else none
theorem rec_form {l : List Int} {r : SRecord} (h : rec_ l = some r) : form r = true := by
  unfold rec_ at h
  cases hr : raw l with
  | none => rw [hr] at h; cases h
  | some r' =>
    rw [hr, Option.bind_some] at h
    split at h
    · cases h; assumption
    · cases h
theorem chain_of (c : BitVec 64) : chainOf ((c.toNat / 4294967296 : Nat) : Int) ((c.toNat % 4294967296 : Nat) : Int) = c := by
  unfold chainOf
  apply BitVec.eq_of_toNat_eq
  have := c.isLt
  rw [BitVec.toNat_ofNat]; omega
theorem rec_ints {r : SRecord} (h : form r = true) : rec_ (ints r) = some r := by
  obtain ⟨k, e, s, c⟩ := r
  have hf := h
  unfold form at h
  by_cases hk : k = 1
  · subst hk
    simp only [if_true, Bool.and_eq_true, decide_eq_true_eq] at h
    obtain ⟨h1, h2, h3, h4⟩ := h
    subst h3; subst h4
    obtain ⟨e1, e2, e3, e4, e5, e6, e7, ⟨e8, e9⟩, e10, e11, e12⟩ := e
    simp only [rec_, ints, eints, raw, show ¬ (1 : Int) = 2 by decide, if_false, entRec, Option.bind_some]
    exact if_pos hf
  · simp only [if_neg hk, Bool.and_eq_true, decide_eq_true_eq] at h
    obtain ⟨h1, h2, h3, h4⟩ := h
    subst h1; subst h4
    have hc := c.isLt
    have b1 : isHalf ((c.toNat / 4294967296 : Nat) : Int) = true := by simp only [isHalf, Bool.and_eq_true, decide_eq_true_eq]; omega
    have b2 : isHalf ((c.toNat % 4294967296 : Nat) : Int) = true := by simp only [isHalf, Bool.and_eq_true, decide_eq_true_eq]; omega
    simp only [rec_, ints, raw, if_true, b1, b2, and_self, chkRec, chain_of, Option.bind_some]
    exact if_pos hf
theorem ints_rec {l : List Int} {r : SRecord} (h : rec_ l = some r) : ints r = l := by
  have hf := rec_form h
  unfold rec_ at h
  cases hr : raw l with
  | none => rw [hr] at h; cases h
  | some r' =>
    rw [hr, Option.bind_some] at h
    split at h
    · cases h
      unfold raw at hr
      split at hr
      · rename_i k s hh c
        split at hr
        · rename_i hc
          obtain ⟨rfl, b1, b2⟩ := hc
          simp only [Option.some.injEq] at hr
          subst hr
          simp only [isHalf, Bool.and_eq_true, decide_eq_true_eq] at b1 b2
          simp only [ints, chkRec, if_true, chainOf, BitVec.toNat_ofNat]
          congr 2
          have e1 : (hh.toNat * 4294967296 + c.toNat) % 2 ^ 64 = hh.toNat * 4294967296 + c.toNat := Nat.mod_eq_of_lt (by omega)
          rw [e1]
          congr 1
          · omega
          · congr 1; omega
        · cases hr
      · rename_i k s t kd se rf a n lo hi te ag si
        split at hr
        · cases hr
        · rename_i hk
          simp only [Option.some.injEq] at hr
          subst hr
          simp only [ints, entRec, eints]
          exact if_neg hk
      · cases hr
    · cases h
theorem ints_ok {r : SRecord} (h : r.Ok) : ∀ n ∈ ints r, I64 n := by
  obtain ⟨k, e, s, c⟩ := r
  obtain ⟨e1, e2, e3, e4, e5, e6, e7, ⟨e8, e9⟩, e10, e11, e12⟩ := e
  simp only [SRecord.Ok, SEntry.Ok, SSpan.Ok] at h
  obtain ⟨h1, ⟨g1, g2, g3, g4, g5, g6, g7, ⟨g8, g9⟩, g10, g11, g12⟩, h3, _⟩ := h
  have hc := c.isLt
  intro n hn
  unfold ints at hn
  split at hn
  · simp only [List.mem_cons, List.not_mem_nil, or_false] at hn
    rcases hn with rfl | rfl | rfl | rfl
    · exact h1
    · exact h3
    · unfold I64; omega
    · unfold I64; omega
  · simp only [eints, List.mem_cons, List.not_mem_nil, or_false] at hn
    rcases hn with rfl | rfl | rfl | rfl | rfl | rfl | rfl | rfl | rfl | rfl | rfl | rfl | rfl <;> assumption
theorem ints_len (r : SRecord) : 0 < (ints r).length ∧ (ints r).length ≤ 13 := by unfold ints; split <;> simp [eints]
theorem rec_ok {l : List Int} (hl : ∀ n ∈ l, I64 n) {r : SRecord} (h : rec_ l = some r) : r.Ok := by
  unfold rec_ at h
  cases hr : raw l with
  | none => rw [hr] at h; cases h
  | some r' =>
    rw [hr, Option.bind_some] at h
    split at h
    · cases h
      unfold raw at hr
      split at hr
      · rename_i k s hh c
        split at hr
        · simp only [Option.some.injEq] at hr
          subst hr
          exact ⟨hl k (by simp), by simp [chkRec, SEntry.zero, SEntry.Ok, SSpan.Ok, I64], hl s (by simp), trivial⟩
        · cases hr
      · rename_i k s t kd se rf a n lo hi te ag si
        split at hr
        · cases hr
        · simp only [Option.some.injEq] at hr
          subst hr
          exact ⟨hl k (by simp), ⟨hl s (by simp), hl t (by simp), hl kd (by simp), hl se (by simp), hl rf (by simp), hl a (by simp), hl n (by simp), ⟨hl lo (by simp), hl hi (by simp)⟩, hl te (by simp), hl ag (by simp), hl si (by simp)⟩, by simp [entRec, I64], trivial⟩
      · cases hr
    · cases h
def frameOf (r : SRecord) : List UInt8 := Cod.frame (ints r)
def loadL : List (List Int) → List SRecord × Nat
  | [] => ([], 0)
  | l :: ls => match rec_ l with
    | none => ([], 0)
    | some r => (r :: (loadL ls).1, (Cod.frame l).length + (loadL ls).2)
def load (b : List UInt8) : List SRecord × Nat := loadL (Cod.frames b).1
def bytes (rs : List SRecord) : List UInt8 := Cod.all (rs.map ints)
theorem loadL_append : ∀ {rs : List SRecord} {ls : List (List Int)}, (∀ r ∈ rs, form r = true) → loadL (rs.map ints ++ ls) = (rs ++ (loadL ls).1, (bytes rs).length + (loadL ls).2)
  | [], ls, _ => by simp [bytes, Cod.all]
  | r :: rs, ls, h => by
    have ih := loadL_append (rs := rs) (ls := ls) fun r hr => h r (by simp [hr])
    simp only [List.map_cons, List.cons_append, loadL, rec_ints (h r (by simp)), ih]
    simp [bytes, Cod.all]; omega
theorem fits {rs : List SRecord} (h : ∀ r ∈ rs, r.Ok) : Cod.Fits (rs.map ints) := fun l hl => by
  obtain ⟨r, hr, rfl⟩ := List.mem_map.1 hl
  exact ⟨ints_ok (h r hr), by have := (ints_len r).2; omega⟩
theorem load_bytes {rs : List SRecord} (hf : ∀ r ∈ rs, form r = true) (ho : ∀ r ∈ rs, r.Ok) (rest : List UInt8) : load (bytes rs ++ rest) = (rs ++ (load rest).1, (bytes rs).length + (load rest).2) := by
  unfold load
  rw [show bytes rs = Cod.all (rs.map ints) from rfl, Cod.frames_all (fits ho)]
  exact loadL_append hf
theorem load_nil : load [] = ([], 0) := by unfold load; rw [Cod.frames_none Cod.whole_nil]; rfl
theorem load_all {rs : List SRecord} (hf : ∀ r ∈ rs, form r = true) (ho : ∀ r ∈ rs, r.Ok) : load (bytes rs) = (rs, (bytes rs).length) := by
  have := load_bytes hf ho []
  rw [List.append_nil, load_nil] at this
  simpa using this
theorem bytes_nil : bytes [] = [] := rfl
theorem bytes_snoc (rs : List SRecord) (r : SRecord) : bytes (rs ++ [r]) = bytes rs ++ frameOf r := by simp [bytes, Cod.all, frameOf]
theorem bytes_append (a b : List SRecord) : bytes (a ++ b) = bytes a ++ bytes b := by simp [bytes, Cod.all]
theorem load_torn {rs : List SRecord} (hf : ∀ r ∈ rs, form r = true) (ho : ∀ r ∈ rs, r.Ok) {k at_ : Nat} (h1 : (bytes (rs.take k)).length ≤ at_) (h2 : k < rs.length → at_ < (bytes (rs.take (k + 1))).length) :
    load ((bytes rs).take at_) = (rs.take k, (bytes (rs.take k)).length) := by
  unfold load
  have e := Cod.frames_torn (ls := rs.map ints) (fits ho) (k := k) (at_ := at_) (by rw [← List.map_take]; exact h1) (by rw [List.length_map, ← List.map_take]; exact h2)
  rw [show bytes rs = Cod.all (rs.map ints) from rfl, e, ← List.map_take]
  have := loadL_append (rs := rs.take k) (ls := []) fun r hr => hf r (List.mem_of_mem_take hr)
  simpa [loadL] using this
theorem loadL_size : ∀ (ls : List (List Int)), (∀ l ∈ ls, ∀ n ∈ l, I64 n) → (∀ r ∈ (loadL ls).1, form r = true ∧ r.Ok) ∧ (loadL ls).1.length ≤ ls.length ∧ (loadL ls).1.map ints = ls.take (loadL ls).1.length ∧ (loadL ls).2 = (bytes (loadL ls).1).length
  | [], _ => by simp [loadL, bytes, Cod.all]
  | l :: ls, h => by
    simp only [loadL]
    cases hr : rec_ l with
    | none => simp [bytes, Cod.all]
    | some r =>
      obtain ⟨h1, h2, h3, h4⟩ := loadL_size ls fun l hl => h l (by simp [hl])
      refine ⟨fun r' hr' => ?_, by simp only [List.length_cons]; omega, ?_, ?_⟩
      · rcases List.mem_cons.1 hr' with rfl | hr'
        · exact ⟨rec_form hr, rec_ok (h l (by simp)) hr⟩
        · exact h1 r' hr'
      · simp only [List.map_cons, List.length_cons, List.take_succ_cons, h3, ints_rec hr]
      · simp only [h4]
        simp [bytes, Cod.all, ints_rec hr]
def keptL (out : List SEntry) : List SRecord → Option (List SEntry)
  | [] => some out
  | r :: rs => if r.kind = 1 then (if r.entry.seq = (out.length : Int) + 1 then keptL (out ++ [r.entry]) rs else none) else if r.seq = (out.length : Int) then keptL out rs else none
end Jou
end Go.Proofs.YtoeblipchoglaaaGreatDoor
namespace Go.Proofs.YtoeblipchoglaaaGreatDoor
set_option maxRecDepth 100000
open Sh Go.RowKit
theorem SEntry.zero_new : Tryz.prog.built 38 [] = some SEntry.zero.cells.toArray := by kernel_rfl
theorem SRecord.zero_new : Tryz.prog.built 64 [] = some SRecord.zero.cells.toArray := by kernel_rfl
theorem box_rec {r : SRecord} {w : World} {K : Value → World → Prop} {X : List PanicEntry → World → Prop} (hk : ∀ b w1, Ext w w1 → At w1 b (.cells r.cells.toArray 64 (0, 0)) → w.heap.size = b → K (.pointer (some ⟨b, 0, none⟩)) w1) :
    DoV Tryz.prog (Instr.box 64 (.agg r.cells.toArray)) w K X := box_i fun b w1 x1 h1 h2 _ => hk b w1 x1 h1 h2
theorem isRecord_ret (r : SRecord) (w : World) : Ret Tryz.prog 74 #[.agg r.cells.toArray] w fun v w' => v = .bool (Jou.form r) ∧ Ext w w' := by
  refine ret_of (fun _ _ => sh_journal_isRecord_ok _) fun R hR => ?_
  unfold sh_journal_isRecord
  refine box_rec fun b w1 x1 hat _ => ?_
  have h := has_of_at hat
  have hend : ∀ q : Bool, q = Jou.form r → R (.returned (.bool q)) w1 := fun q hq => hR _ _ ⟨by rw [hq], x1⟩
  rw [SRecord.g_kind h, bin_eql]
  unfold Jou.form at hend
  refine Br_i (fun hb => ?_) fun hb => ?_
  · have hk := dec_t hb
    rw [if_pos hk] at hend
    rw [SRecord.g_entry_seq h, bin_leq]
    refine Gd_i (fun hb1 => ?_) fun hb1 => ?_
    · rw [hb1] at hend
      rw [SRecord.g_entry_seq h, bin_leq]
      refine Gd_i (fun hb2 => ?_) fun hb2 => ?_
      · rw [hb2] at hend
        rw [SRecord.g_seq h, bin_eql]
        refine Gd_i (fun hb3 => ?_) fun hb3 => ?_
        · rw [hb3] at hend
          rw [SRecord.g_chain h, u64lit 0#64 0 (by decide), u64_eql]
          exact hend _ (by simp)
        · rw [hb3] at hend; exact hend _ (by simp)
      · rw [hb2] at hend; exact hend _ (by simp)
    · rw [hb1] at hend; exact hend _ (by simp)
  · have hk := dec_f hb
    rw [if_neg hk] at hend
    rw [bin_eql]
    refine Br_i (fun hb0 => ?_) fun hb0 => ?_
    · rw [hb0] at hend
      rw [SRecord.g_seq h, bin_leq]
      refine Gd_i (fun hb1 => ?_) fun hb1 => ?_
      · rw [hb1] at hend
        rw [SRecord.g_seq h, bin_leq]
        refine Gd_i (fun hb2 => ?_) fun hb2 => ?_
        · rw [hb2] at hend
          rw [SRecord.g_entry h, build_i SEntry.zero_new, SEntry.eql]
          exact hend _ (by simp)
        · rw [hb2] at hend; exact hend _ (by simp)
      · rw [hb1] at hend; exact hend _ (by simp)
    · rw [hb0] at hend; exact hend _ (by simp)
theorem jForm_ret (r : SRecord) (w : World) : Ret Tryz.prog 65 #[.agg r.cells.toArray] w fun v w' => v = .bool (Jou.form r) ∧ Ext w w' := by
  refine ret_of (fun _ _ => sh_landfallref40_Form_ok _) fun R hR => ?_
  unfold sh_landfallref40_Form
  refine box_rec fun b w1 x1 hat _ => ?_
  have h := has_of_at hat
  have hend : ∀ q : Bool, q = Jou.form r → R (.returned (.bool q)) w1 := fun q hq => hR _ _ ⟨by rw [hq], x1⟩
  rw [SRecord.g_kind h, bin_eql]
  unfold Jou.form at hend
  refine Br_i (fun hb => ?_) fun hb => ?_
  · have hk := dec_t hb
    rw [if_pos hk] at hend
    rw [SRecord.g_entry_seq h, bin_geq]
    refine Gd_i (fun hb1 => ?_) fun hb1 => ?_
    · rw [hb1] at hend
      rw [SRecord.g_entry_seq h, bin_leq]
      refine Gd_i (fun hb2 => ?_) fun hb2 => ?_
      · rw [hb2] at hend
        rw [SRecord.g_seq h, bin_eql]
        refine Gd_i (fun hb3 => ?_) fun hb3 => ?_
        · rw [hb3] at hend
          rw [SRecord.g_chain h, u64lit 0#64 0 (by decide), u64_eql]
          exact hend _ (by simp)
        · rw [hb3] at hend; exact hend _ (by simp)
      · rw [hb2] at hend; exact hend _ (by simp)
    · rw [hb1] at hend; exact hend _ (by simp)
  · have hk := dec_f hb
    rw [if_neg hk] at hend
    rw [SRecord.g_kind h, bin_eql]
    refine Gd_i (fun hb0 => ?_) fun hb0 => ?_
    · rw [hb0] at hend
      rw [SRecord.g_entry h, build_i SEntry.zero_new, SEntry.eql]
      refine Gd_i (fun hb1 => ?_) fun hb1 => ?_
      · rw [hb1] at hend
        rw [SRecord.g_seq h, bin_geq]
        refine Gd_i (fun hb2 => ?_) fun hb2 => ?_
        · rw [hb2] at hend
          rw [SRecord.g_seq h, bin_leq]
          exact hend _ (by simp)
        · rw [hb2] at hend; exact hend _ (by simp)
      · rw [hb1] at hend; exact hend _ (by simp)
    · rw [hb0] at hend; exact hend _ (by simp)
theorem list_ret (v : Value) (w : World) : Ret Tryz.prog 98 #[v] w fun r w' => r = v ∧ w' = w := by
  refine ret_of (fun _ _ => sh_journal_list_ok _) fun R hR => ?_
  unfold sh_journal_list
  exact hR _ _ ⟨rfl, rfl⟩
theorem chain_hi (c : BitVec 64) : IntKind.i64.wrap (IntKind.u64.wrap ((c.toNat : Int).tdiv 4294967296)) = ((c.toNat / 4294967296 : Nat) : Int) := by
  have := c.isLt
  have e : (c.toNat : Int).tdiv 4294967296 = ((c.toNat / 4294967296 : Nat) : Int) := rfl
  rw [e, u64w, i64_wrap (by omega) (by omega)]; omega
theorem chain_lo (c : BitVec 64) : IntKind.i64.wrap ((c.toNat : Int).tmod 4294967296) = ((c.toNat % 4294967296 : Nat) : Int) := by
  have := c.isLt
  have e : (c.toNat : Int).tmod 4294967296 = ((c.toNat % 4294967296 : Nat) : Int) := rfl
  rw [e, i64_wrap (by omega) (by omega)]
def IntsQ (r : SRecord) (w : World) (v : Value) (w' : World) : Prop := Ext w w' ∧ w'.ownsRow w.heap.size 3 1 v (Jou.ints r).length (iv (Jou.ints r))
theorem jints_ret (r : SRecord) (w : World) : Ret Tryz.prog 76 #[.agg r.cells.toArray] w (IntsQ r w) := by
  refine ret_of (fun _ _ => sh_journal_ints_ok _) fun R hR => ?_
  unfold sh_journal_ints
  refine box_rec fun b w1 x1 hat hbs => ?_
  have h := has_of_at hat
  have z1 := x1.size
  rw [SRecord.g_kind h, bin_eql]
  refine Br_i (fun hb => ?_) fun hb => ?_
  · have hk := dec_t hb
    have e : Jou.ints r = [r.kind, r.seq, ((r.chain.toNat / 4294967296 : Nat) : Int), ((r.chain.toNat % 4294967296 : Nat) : Int)] := by unfold Jou.ints; rw [if_pos hk]
    rw [SRecord.g_kind h, SRecord.g_seq h, SRecord.g_chain h, u64v, bin_quo (by decide), conv_int Ty.u64 Ty.int, chain_hi, SRecord.g_chain h, u64v, bin_rem (by decide), conv_int Ty.u64 Ty.int, chain_lo]
    refine lit_ints [r.kind, r.seq, ((r.chain.toNat / 4294967296 : Nat) : Int), ((r.chain.toNat % 4294967296 : Nat) : Int)] rfl (by decide) (by decide) rfl fun v w2 x2 h2 _ => ?_
    refine callF_same (list_ret v w2) ?_
    exact hR _ _ ⟨x1.trans x2, by rw [e]; exact Own.mono h2 z1⟩
  · have hk := dec_f hb
    have e : Jou.ints r = r.kind :: Jou.eints r.entry := by unfold Jou.ints; rw [if_neg hk]
    rw [SRecord.g_entry h]
    refine alloc_i Ty.SEntry_zero fun b2 w2 x2 hat2 hb2 _ => ?_
    refine store_all Ty.SEntry_size hat2 rfl rfl (by intro u hu; exact SEntry.one r.entry u hu) fun w3 m3 hat3 hs3 => ?_
    have h3 : Has w3 b2 0 r.entry.cells := has_of_at hat3
    have hlt := hat.lt
    have x3 : Ext w w3 := (((Mod.of_ext x1 : Mod (w.heap.size ≤ ·) w w1).trans (.of_ext x2)).trans (m3.mono fun k _ h => by omega)).new
    have hr3 : Has w3 b 0 r.cells := has_of_at ((hat.ext x2).mod m3 (by omega))
    have z3 := x3.size
    rw [SRecord.g_kind hr3, SEntry.g_seq h3, SEntry.g_time h3, SEntry.g_kind h3, SEntry.g_sensor h3, SEntry.g_ref h3, SEntry.g_a h3, SEntry.g_n h3, SEntry.g_value_lo h3, SEntry.g_value_hi h3, SEntry.g_temp h3, SEntry.g_age h3, SEntry.g_since h3]
    refine lit_ints (r.kind :: Jou.eints r.entry) rfl (by decide) (by decide) rfl fun v w4 x4 h4 _ => ?_
    refine callF_same (list_ret v w4) ?_
    exact hR _ _ ⟨x3.trans x4, by rw [e]; exact Own.mono h4 z3⟩
theorem refInts_ret (r : SRecord) (w : World) : Ret Tryz.prog 58 #[.agg r.cells.toArray] w (IntsQ r w) := by
  refine ret_of (fun _ _ => sh_landfallref40_Ints_ok _) fun R hR => ?_
  unfold sh_landfallref40_Ints
  refine box_rec fun b w1 x1 hat hbs => ?_
  have h := has_of_at hat
  have z1 := x1.size
  rw [SRecord.g_kind h, bin_eql]
  refine Br_i (fun hb => ?_) fun hb => ?_
  · have hk := dec_t hb
    have e : Jou.ints r = [r.kind, r.seq, ((r.chain.toNat / 4294967296 : Nat) : Int), ((r.chain.toNat % 4294967296 : Nat) : Int)] := by unfold Jou.ints; rw [if_pos hk]
    rw [SRecord.g_kind h, SRecord.g_seq h, SRecord.g_chain h, u64v, bin_quo (by decide), conv_int Ty.u64 Ty.int, chain_hi, SRecord.g_chain h, u64v, bin_rem (by decide), conv_int Ty.u64 Ty.int, chain_lo]
    refine lit_ints [r.kind, r.seq, ((r.chain.toNat / 4294967296 : Nat) : Int), ((r.chain.toNat % 4294967296 : Nat) : Int)] rfl (by decide) (by decide) rfl fun v w2 x2 h2 _ => ?_
    exact hR _ _ ⟨x1.trans x2, by rw [e]; exact Own.mono h2 z1⟩
  · have hk := dec_f hb
    have e : Jou.ints r = r.kind :: Jou.eints r.entry := by unfold Jou.ints; rw [if_neg hk]
    rw [SRecord.g_entry h]
    refine alloc_i Ty.SEntry_zero fun b2 w2 x2 hat2 hb2 _ => ?_
    refine store_all Ty.SEntry_size hat2 rfl rfl (by intro u hu; exact SEntry.one r.entry u hu) fun w3 m3 hat3 hs3 => ?_
    have h3 : Has w3 b2 0 r.entry.cells := has_of_at hat3
    have hlt := hat.lt
    have x3 : Ext w w3 := (((Mod.of_ext x1 : Mod (w.heap.size ≤ ·) w w1).trans (.of_ext x2)).trans (m3.mono fun k _ h => by omega)).new
    have hr3 : Has w3 b 0 r.cells := has_of_at ((hat.ext x2).mod m3 (by omega))
    have z3 := x3.size
    rw [SRecord.g_kind hr3, SEntry.g_seq h3, SEntry.g_time h3, SEntry.g_kind h3, SEntry.g_sensor h3, SEntry.g_ref h3, SEntry.g_a h3, SEntry.g_n h3, SEntry.g_value_lo h3, SEntry.g_value_hi h3, SEntry.g_temp h3, SEntry.g_age h3, SEntry.g_since h3]
    refine lit_ints (r.kind :: Jou.eints r.entry) rfl (by decide) (by decide) rfl fun v w4 x4 h4 _ => ?_
    exact hR _ _ ⟨x3.trans x4, by rw [e]; exact Own.mono h4 z3⟩
theorem half_ret (n : Int) (w : World) : Ret Tryz.prog 80 #[.int .i64 n] w fun v w' => v = .bool (Jou.isHalf n) ∧ w' = w := by
  refine ret_of (fun _ _ => sh_landfallref40_half_ok _) fun R hR => ?_
  unfold sh_landfallref40_half
  rw [bin_geq]
  refine Gd_i (fun hb => ?_) fun hb => ?_
  · rw [bin_lss]; exact hR _ _ ⟨by unfold Jou.isHalf; rw [hb]; simp, rfl⟩
  · exact hR _ _ ⟨by unfold Jou.isHalf; rw [hb]; simp, rfl⟩
end Go.Proofs.YtoeblipchoglaaaGreatDoor
namespace Go.Proofs.YtoeblipchoglaaaGreatDoor
set_option maxRecDepth 100000
open Sh Go.RowKit
def strangeV : Value := .iface 149 (.agg #[])
namespace Ty
theorem strange_new : Tryz.prog.built 149 [] = some #[] := by kernel_rfl
theorem strange_con : Tryz.prog.concrete 149 = true := by kernel_rfl
theorem strange_zero (w : World) : (zeroValue 149).run Tryz.prog w = .ok (.agg #[]) w := by kernel_rfl
theorem strange_size (w : World) : (sizeOf 149).run Tryz.prog w = .ok 0 w := by kernel_rfl
theorem src_f0_run (w : World) (b o : Nat) : (Instr.fieldAt 152 (.pointer (some ⟨b, o, none⟩)) 0).run Tryz.prog w = .ok (.pointer (some ⟨b, o, none⟩)) w := by kernel_rfl
theorem rdr_f0_run (w : World) (b o : Nat) : (Instr.fieldAt 154 (.pointer (some ⟨b, o, none⟩)) 0).run Tryz.prog w = .ok (.pointer (some ⟨b, o, none⟩)) w := by kernel_rfl
theorem rdr_f1_run (w : World) (b o : Nat) : (Instr.fieldAt 154 (.pointer (some ⟨b, o, none⟩)) 1).run Tryz.prog w = .ok (.pointer (some ⟨b, o + 15, none⟩)) w := by kernel_rfl
theorem src_new (v : Value) (h : v.cells = #[v]) : Tryz.prog.built 152 [(0, v)] = some #[v] := by
  have e : Tryz.prog.built 152 [(0, v)] = Instr.fill (fun i => (#[(0, 1)] : Array (Nat × Nat))[i]?) #[.slice none 0 0] [(0, v)] := by kernel_rfl
  rw [e]
  simp [Instr.fill, h]
theorem rdr_new (v : Value) : Tryz.prog.built 154 [(1, .agg #[v])] = some (SRecord.zero.cells ++ [v]).toArray := by kernel_rfl
theorem rdr_zero (w : World) : (zeroValue 154).run Tryz.prog w = .ok (.agg (SRecord.zero.cells ++ [Value.slice none 0 0]).toArray) w := by kernel_rfl
theorem rdr_size (w : World) : (sizeOf 154).run Tryz.prog w = .ok 16 w := by kernel_rfl
theorem bool_zero (w : World) : (zeroValue 4).run Tryz.prog w = .ok (.bool false) w := by kernel_rfl
theorem ptrs : Tryz.prog.underlying 169 = some (.slice 162) := by kernel_rfl
theorem ptr_info : (Tryz.prog.info? 162).map (fun i => (i.zero, i.size, i.bytes)) = some (some (.pointer none), 1, 8) := by kernel_rfl
theorem ptr_agg (w : World) : (isAgg 162).run Tryz.prog w = .ok false w := by kernel_rfl
end Ty
section
variable {w : World} {K : Value → World → Prop} {X : List PanicEntry → World → Prop} {b o : Nat}
theorem src_f0 : DoV Tryz.prog (Instr.fieldAt 152 (.pointer (some ⟨b, o, none⟩)) 0) w K X = K (.pointer (some ⟨b, o, none⟩)) w := DoV_ok (Ty.src_f0_run w b o)
theorem rdr_f0 : DoV Tryz.prog (Instr.fieldAt 154 (.pointer (some ⟨b, o, none⟩)) 0) w K X = K (.pointer (some ⟨b, o, none⟩)) w := DoV_ok (Ty.rdr_f0_run w b o)
theorem rdr_f1 : DoV Tryz.prog (Instr.fieldAt 154 (.pointer (some ⟨b, o, none⟩)) 1) w K X = K (.pointer (some ⟨b, o + 15, none⟩)) w := DoV_ok (Ty.rdr_f1_run w b o)
end
end Go.Proofs.YtoeblipchoglaaaGreatDoor
namespace Go.Proofs.YtoeblipchoglaaaGreatDoor
set_option maxRecDepth 100000
open Sh Go.RowKit
def RdAt (w : World) (b : Nat) (cs : List Value) (v : Value) : Prop := At w b (.cells (cs ++ [v]).toArray 154 (0, 0))
theorem set_last {cs : List Value} {v v' : Value} (h : cs.length = 15) : (cs ++ [v]).toArray.setIfInBounds 15 v' = (cs ++ [v']).toArray := by
  apply Array.ext'
  simp [h]
theorem set_cell {cs : List Value} {v u : Value} {k : Nat} (h : cs.length = 15) (hk : k < 15) : (cs ++ [v]).toArray.setIfInBounds k u = (cs.set k u ++ [v]).toArray := by
  apply Array.ext'
  simp [h, hk]
def TakeQ (b : Nat) (cs : List Value) (v : Value) (l : List Int) (w : World) (e : Ending) (w' : World) : Prop :=
  match l with
  | [] => e = .panicked [{ v := strangeV, recovered := false }] ∧ w' = w
  | n :: r => e = .returned (.int .i64 n) ∧ Mod (· = b) w w' ∧ w'.heap.size = w.heap.size ∧ ∃ v', RdAt w' b cs v' ∧ Sl w' 1 v' r.length (iv r) ∧ ∀ g, v'.ownBlock = some g → v.ownBlock = some g
theorem take_ret {b : Nat} {cs : List Value} {v : Value} {l : List Int} (w : World) (hc : cs.length = 15) (hb : RdAt w b cs v) (hv : Sl w 1 v l.length (iv l)) (hoff : l ≠ [] → Off (· = b) v) :
    Calls Tryz.prog 133 #[.pointer (some ⟨b, 15, none⟩)] w (TakeQ b cs v l w) := by
  refine sh_journal_source_take_ok _ ?_
  unfold sh_journal_source_take
  obtain ⟨ii, hii, _, his, _⟩ := Ty.info_parts Ty.int_info
  have hu : (cs ++ [v]).toArray[15]? = some v := by simp [hc]
  have hg : ∀ {K : Value → World → Prop} {X : List PanicEntry → World → Prop}, DoV Tryz.prog (Instr.loadAt 91 (.pointer (some ⟨b, 15, none⟩))) w K X = K v w := fun {K X} => load_e Ty.ints_agg (show At w b _ from hb) hu
  refine join0 (fun w' => w' = w ∧ l ≠ []) ?_ fun K hK => ?_
  · rintro _ w' ⟨hw, hne⟩
    subst w'
    obtain ⟨n, r, rfl⟩ : ∃ n r, l = n :: r := by
      cases l with
      | nil => exact absurd rfl hne
      | cons n r => exact ⟨n, r, rfl⟩
    obtain ⟨g, o, hcell, _, hix⟩ := hv.index Ty.ints hii his (k := .i64) (j := 0) (by simp) (by decide)
    have hix0 : ∀ (w1 : World) (K : Value → World → Prop) (X : List PanicEntry → World → Prop), DoV Tryz.prog (Instr.indexAt 91 v (.int .i64 0)) w1 K X = K (.pointer (some ⟨g, o + 0 * 1, none⟩)) w1 := hix
    rw [nil_ptr, src_f0, hg, hix0, load_cell Ty.int_agg (u := .int .i64 n) (hcell 0 _ rfl), nil_ptr, src_f0, hg]
    refine slice_from (l := 1) Ty.ints hii his (by decide) hv (by simp) fun v' hv' hown => ?_
    rw [nil_ptr, src_f0]
    refine store_i Ty.ints_size hb (by simp [hc]) (by obtain ⟨a, cap, rfl, _⟩ := hv'; rfl) fun w1 m1 hb1 hs1 => ?_
    rw [set_last hc] at hb1
    have e : (iv (n :: r)).drop (1 * 1) = iv r := rfl
    rw [e, List.length_cons, Nat.add_sub_cancel] at hv'
    refine ⟨rfl, m1, hs1, v', hb1, hv'.mod_ne m1 fun hr => ?_, hown⟩
    intro k hk
    exact hoff (by simp) k (hown k hk)
  · rw [nil_ptr, src_f0, hg, hv.len Ty.ints, bin_eql]
    refine Br_i (fun hb0 => ?_) fun hb0 => ?_
    · have h0 := dec_t hb0
      have : l = [] := List.eq_nil_of_length_eq_zero (by omega)
      subst this
      rw [build_i Ty.strange_new, iface_i Ty.strange_con, panic_i]
      exact ⟨rfl, rfl⟩
    · have h0 := dec_f hb0
      exact hK _ ⟨rfl, fun e => h0 (by rw [e]; rfl)⟩
theorem take_use {b : Nat} {cs : List Value} {v : Value} {l : List Int} {w : World} {K : Value → World → Prop} {X : List PanicEntry → World → Prop} (hc : cs.length = 15) (hb : RdAt w b cs v) (hv : Sl w 1 v l.length (iv l)) (hoff : l ≠ [] → Off (· = b) v)
    (hx : l = [] → X [{ v := strangeV, recovered := false }] w)
    (hk : ∀ n r v' w', l = n :: r → Mod (· = b) w w' → w'.heap.size = w.heap.size → RdAt w' b cs v' → Sl w' 1 v' r.length (iv r) → (r ≠ [] → Off (· = b) v') → K (.int .i64 n) w') :
    CallF Tryz.prog 133 #[.pointer (some ⟨b, 0 + 15, none⟩)] w K X := by
  refine callF_of (take_ret w hc hb hv hoff) ?_ ?_ ?_
  · intro r w' hq
    unfold TakeQ at hq
    cases l with
    | nil => exact absurd hq.1 (by simp)
    | cons n r =>
      obtain ⟨e, m, hs, v', h1, h2, h3⟩ := hq
      cases e
      exact hk n r v' w' rfl m hs h1 h2 fun _ k hk2 => hoff (by simp) k (h3 k hk2)
  · intro ch w' hq
    unfold TakeQ at hq
    cases l with
    | nil => obtain ⟨e, rfl⟩ := hq; cases e; exact hx rfl
    | cons n r => exact absurd hq.1 (by simp)
  · intro w' hq
    unfold TakeQ at hq
    cases l with
    | nil => exact absurd hq.1 (by simp)
    | cons n r => exact absurd hq.1 (by simp)
theorem part_use {b : Nat} {cs : List Value} {v : Value} {l : List Int} {w : World} {K : Value → World → Prop} {X : List PanicEntry → World → Prop} (hc : cs.length = 15) (hb : RdAt w b cs v) (hv : Sl w 1 v l.length (iv l)) (hoff : l ≠ [] → Off (· = b) v)
    (hx : ∀ w', (∀ n r, l = n :: r → Jou.isHalf n = false) → Mod (· = b) w w' → X [{ v := strangeV, recovered := false }] w')
    (hk : ∀ n r v' w', l = n :: r → Jou.isHalf n = true → Mod (· = b) w w' → w'.heap.size = w.heap.size → RdAt w' b cs v' → Sl w' 1 v' r.length (iv r) → (r ≠ [] → Off (· = b) v') → K (.int .u64 n) w') :
    CallF Tryz.prog 134 #[.pointer (some ⟨b, 0 + 15, none⟩)] w K X := by
  refine sh_journal_source_part_ok _ ?_
  unfold sh_journal_source_part
  refine take_use hc hb hv hoff (fun h => hx w (fun n r e => by rw [h] at e; cases e) (Mod.refl _ _)) fun n r v' w1 hl m1 hs1 h1 h2 h3 => ?_
  refine join0 (fun w' => w' = w1 ∧ Jou.isHalf n = true) ?_ fun K1 hK1 => ?_
  · rintro _ w' ⟨hw, hh⟩
    subst w'
    have hhalf := hh
    simp only [Jou.isHalf, Bool.and_eq_true, decide_eq_true_eq] at hh
    rw [conv_int Ty.int Ty.u64, show IntKind.u64.wrap n = n by rw [u64w]; omega]
    exact hk n r v' w1 hl hhalf m1 hs1 h1 h2 h3
  · refine join1 (fun x w' => x = .bool (!Jou.isHalf n) ∧ w' = w1) ?_ fun K2 hK2 => ?_
    · rintro _ _ w' hx2 ⟨rfl, hw⟩
      subst w'
      rw [hx2]
      refine Br_i (fun hb0 => ?_) fun hb0 => hK1 _ ⟨rfl, by simpa using hb0⟩
      rw [build_i Ty.strange_new, iface_i Ty.strange_con, panic_i]
      exact hx w1 (fun n' r' e => by rw [hl] at e; cases e; simpa using hb0) m1
    · rw [bin_lss]
      refine Gd_i (fun hb0 => ?_) fun hb0 => ?_
      · have h0 := dec_f hb0
        rw [bin_geq]
        refine hK2 _ _ ⟨?_, rfl⟩
        congr 1
        unfold Jou.isHalf
        rw [decide_eq_true (by omega : 0 ≤ n), Bool.true_and]
        by_cases h : n < 4294967296
        · rw [decide_eq_true h, decide_eq_false (by omega)]; rfl
        · rw [decide_eq_false h, decide_eq_true (by omega)]; rfl
      · have h0 := dec_t hb0
        refine hK2 _ _ ⟨?_, rfl⟩
        congr 1
        unfold Jou.isHalf
        rw [decide_eq_false (by omega : ¬ 0 ≤ n)]; rfl
theorem raw_two {l : List Int} (h : (2 :: l).length ≠ 4) : Jou.raw (2 :: l) = none := by
  unfold Jou.raw
  split
  · rename_i heq; rw [heq] at h; exact absurd rfl h
  · rename_i heq; cases heq; rfl
  · rfl
theorem raw_other {k : Int} {l : List Int} (hk : k ≠ 2) (h : (k :: l).length ≠ 13) : Jou.raw (k :: l) = none := by
  unfold Jou.raw
  split
  · rename_i heq; cases heq; rw [if_neg (fun h => hk h.1)]
  · rename_i heq; rw [heq] at h; exact absurd rfl h
  · rfl
theorem rec_none {l : List Int} (h : Jou.raw l = none) : Jou.rec_ l = none := by unfold Jou.rec_; rw [h]; rfl
def ReadQ (b : Nat) (l : List Int) (w : World) (e : Ending) (w' : World) : Prop :=
  Mod (· = b) w w' ∧ match Jou.rec_ l with
  | none => e = .panicked [{ v := strangeV, recovered := false }]
  | some r => e = .returned (.tuple #[]) ∧ ∃ v', RdAt w' b r.cells v'
def upTo (k : Int) (m : List Int) : List Value := .int .i64 k :: (iv m ++ List.replicate (12 - m.length) (.int .i64 0)) ++ [.int .i64 0, u64v 0]
theorem upTo_length {k : Int} {m : List Int} (h : m.length ≤ 12) : (upTo k m).length = 15 := by simp [upTo, iv]; omega
theorem upTo_set {k n : Int} {m : List Int} (h : m.length < 12) : (upTo k m).set (1 + m.length) (.int .i64 n) = upTo k (m ++ [n]) := by
  unfold upTo
  rw [show 1 + m.length = m.length + 1 by omega, List.cons_append, List.set_cons_succ, List.append_assoc, List.set_append_right _ _ (by simp [iv])]
  obtain ⟨q, hq⟩ : ∃ q, 12 - m.length = q + 1 := ⟨11 - m.length, by omega⟩
  rw [hq, show 12 - (m ++ [n]).length = q by simp; omega]
  simp [iv, List.replicate_succ]
theorem jread_ret {b : Nat} {v : Value} {l : List Int} (w : World) (hb : RdAt w b SRecord.zero.cells v) (hv : Sl w 1 v l.length (iv l)) (hoff : l ≠ [] → Off (· = b) v) :
    Calls Tryz.prog 120 #[.pointer (some ⟨b, 0, none⟩)] w (ReadQ b l w) := by
  refine sh_journal_reader_read_ok _ ?_
  unfold sh_journal_reader_read
  obtain ⟨ip, hip, hzp, hsp, _⟩ := Ty.info_parts Ty.ptr_info
  have bad : ∀ w', Mod (· = b) w w' → Jou.raw l = none → Pan (ReadQ b l w) [{ v := strangeV, recovered := false }] w' := fun w' m hr => ⟨m, by rw [rec_none hr]⟩
  rw [nil_ptr, rdr_f1]
  refine take_use rfl hb hv hoff (fun hl => bad w (Mod.refl _ _) (by rw [hl]; rfl)) fun k l1 v1 w1 hl m1 hs1 hb1 hv1 hoff1 => ?_
  rw [nil_ptr, rdr_f0, Ty.SRecord_f0]
  refine store_i Ty.int_size hb1 (by simp [SRecord.len]) rfl fun w2 m2 hb2 hs2 => ?_
  have hb2 : RdAt w2 b (upTo k []) v1 := hb2
  have m02 := m1.trans m2
  have hv2 : Sl w2 1 v1 l1.length (iv l1) := hv1.mod_ne m2 fun h => hoff1 (by rintro rfl; exact h rfl)
  refine join1 (fun _ w3 => Mod (· = b) w w3 ∧ ∃ (r : SRecord) (v3 : Value) (l3 : List Int), RdAt w3 b r.cells v3 ∧ Sl w3 1 v3 l3.length (iv l3) ∧ (l3 = [] → Jou.raw l = some r) ∧ (l3 ≠ [] → Jou.raw l = none)) ?_ fun K hK => ?_
  · rintro _ _ w3 _ ⟨m3, r, v3, l3, hb3, hv3, hr3, hn3⟩
    have hload : ∀ {K : Value → World → Prop} {X : List PanicEntry → World → Prop}, DoV Tryz.prog (Instr.loadAt 91 (.pointer (some ⟨b, 0 + 15, none⟩))) w3 K X = K v3 w3 := fun {K X} => load_e Ty.ints_agg (show At w3 b _ from hb3) rfl
    refine join1 (fun x w4 => ∃ q : Bool, x = .bool q ∧ Mod (· = b) w w4 ∧ (q = false → l3 = [] ∧ Jou.form r = true ∧ RdAt w4 b r.cells v3) ∧ (q = true → Jou.rec_ l = none)) ?_ fun K1 hK1 => ?_
    · rintro _ _ w4 hx ⟨q, rfl, m4, hq0, hq1⟩
      rw [hx]
      refine Br_i (fun hq => ?_) fun hq => ?_
      · rw [build_i Ty.strange_new, iface_i Ty.strange_con, panic_i]
        exact ⟨m4, by rw [hq1 hq]; rfl⟩
      · obtain ⟨h1, h2, h3⟩ := hq0 hq
        refine ⟨m4, ?_⟩
        have e : Jou.rec_ l = some r := by unfold Jou.rec_; rw [hr3 h1, Option.bind_some, if_pos h2]
        rw [e]
        exact ⟨rfl, v3, h3⟩
    · rw [nil_ptr, rdr_f1, src_f0, hload, hv3.len Ty.ints, bin_gtr]
      refine Gd_i (fun hb0 => ?_) fun hb0 => ?_
      · have h0 := dec_f hb0
        have hl3 : l3 = [] := List.eq_nil_of_length_eq_zero (by omega)
        have hh : Has w3 b 0 r.cells := fun j u hu => by
          have := has_of_at (show At w3 b _ from hb3) j u (by rw [List.getElem?_append_left (List.getElem?_eq_some_iff.1 hu).1]; exact hu)
          exact this
        rw [nil_ptr, rdr_f0, SRecord.g_all hh]
        refine callF_ret (isRecord_ret r w3) ?_
        rintro _ w4 ⟨rfl, x4⟩
        rw [un_not]
        refine hK1 _ _ ⟨_, rfl, m3.trans (.of_ext x4), fun hq => ⟨hl3, by simpa using hq, hb3.ext x4⟩, fun hq => ?_⟩
        unfold Jou.rec_
        rw [hr3 hl3, Option.bind_some, if_neg (by simpa using hq)]
      · have h0 := dec_t hb0
        have hl3 : l3 ≠ [] := by rintro rfl; simp at h0
        exact hK1 _ _ ⟨true, rfl, m3, (fun h => by cases h), fun _ => rec_none (hn3 hl3)⟩
  · have hload : ∀ {K : Value → World → Prop} {X : List PanicEntry → World → Prop}, DoV Tryz.prog (Instr.loadAt 3 (.pointer (some ⟨b, 0, none⟩))) w2 K X = K (.int .i64 k) w2 := fun {K X} => load_e Ty.int_agg (show At w2 b _ from hb2) rfl
    rw [nil_ptr, rdr_f0, Ty.SRecord_f0, hload, bin_eql]
    refine Br_i (fun hb0 => ?_) fun hb0 => ?_
    · have hk2 := dec_t hb0
      subst hk2
      rw [nil_ptr, rdr_f1]
      refine take_use (upTo_length (by simp)) hb2 hv2 hoff1 (fun h => bad w2 m02 (by rw [hl, h]; exact raw_two (by simp))) fun s l2 v3 w3 hl1 m3 hs3 hb3 hv3 hoff3 => ?_
      rw [nil_ptr, rdr_f0, Ty.SRecord_f2]
      refine store_i Ty.int_size hb3 (by simp [upTo_length]) rfl fun w4 m4 hb4 hs4 => ?_
      rw [set_cell (upTo_length (by simp)) (by decide)] at hb4
      have m04 := (m02.trans m3).trans m4
      have hv4 : Sl w4 1 v3 l2.length (iv l2) := hv3.mod_ne m4 fun h => hoff3 (by rintro rfl; exact h rfl)
      have hc4 : ((upTo 2 []).set (0 + 13) (.int .i64 s)).length = 15 := by rw [List.length_set]; exact upTo_length (by simp)
      rw [nil_ptr, rdr_f1]
      refine part_use hc4 hb4 hv4 hoff3 (fun w' hn m' => bad w' (m04.trans m') ?_) fun h l5 v5 w5 hl2 hh5 m5 hs5 hb5 hv5 hoff5 => ?_
      · rw [hl, hl1]
        cases l2 with
        | nil => exact raw_two (by simp)
        | cons a t =>
          match t, hn a t rfl with
          | [], _ => exact raw_two (by simp)
          | [c], hf => simp only [Jou.raw]; rw [if_neg]; rintro ⟨_, h2, _⟩; rw [hf] at h2; cases h2
          | _ :: _ :: _, _ => exact raw_two (by simp)
      have hh := hh5
      simp only [Jou.isHalf, Bool.and_eq_true, decide_eq_true_eq] at hh
      rw [bin_mul, show IntKind.u64.wrap (h * 4294967296) = h * 4294967296 by rw [u64w]; omega, nil_ptr, rdr_f1]
      refine part_use hc4 hb5 hv5 hoff5 (fun w' hn m' => bad w' ((m04.trans m5).trans m') ?_) fun c l6 v6 w6 hl5 hh6 m6 hs6 hb6 hv6 hoff6 => ?_
      · rw [hl, hl1, hl2]
        cases l5 with
        | nil => exact raw_two (by simp)
        | cons a t =>
          match t, hn a t rfl with
          | [], hf => simp only [Jou.raw]; rw [if_neg]; rintro ⟨_, _, h2⟩; rw [hf] at h2; cases h2
          | _ :: _, _ => exact raw_two (by simp)
      have hh2 := hh6
      simp only [Jou.isHalf, Bool.and_eq_true, decide_eq_true_eq] at hh2
      have hcv : Value.int .u64 (IntKind.u64.wrap (h * 4294967296 + c)) = u64v (Jou.chainOf h c) := by
        rw [u64v, Jou.chainOf, BitVec.toNat_ofNat, u64w]
        congr 1; omega
      rw [bin_add, hcv, nil_ptr, rdr_f0, Ty.SRecord_f3]
      refine store_i Ty.u64_size hb6 (by simp [hc4]) rfl fun w7 m7 hb7 hs7 => ?_
      rw [set_cell hc4 (by decide)] at hb7
      have m07 := ((m04.trans m5).trans m6).trans m7
      refine hK _ _ ⟨m07, Jou.chkRec 2 s h c, v6, l6, hb7, hv6.mod_ne m7 fun hne => hoff6 (by rintro rfl; exact hne rfl), fun h0 => ?_, fun h0 => ?_⟩
      · rw [hl, hl1, hl2, hl5, h0]
        simp only [Jou.raw]
        rw [if_pos ⟨trivial, hh5, hh6⟩]
      · rw [hl, hl1, hl2, hl5]
        refine raw_two ?_
        cases l6 with
        | nil => exact absurd rfl h0
        | cons _ _ => simp
    · have hk2 := dec_f hb0
      rw [nil_ptr, rdr_f0, Ty.SRecord_f1]
      have hlt := hb2.lt
      refine ⟨(· = ·), Ext, ⟨fun _ => rfl, fun _ _ _ h1 h2 => h1.trans h2, fun _ _ h => h ▸ Ext.refl _, fun _ _ _ => Ext.trans⟩, ?_⟩
      have nc : ∀ (o : Nat) {rest : Value → (World → Prop) → Prop}, rest (.pointer (some ⟨b, o, none⟩)) (fun _ => True) → DetOp Ext (· = ·) w2.drew (fun w1 K => NilC Tryz.prog (.pointer (some ⟨b, o, none⟩)) w1 K (Pan (ReadQ b l w))) rest := fun o rest hr =>
        det_pure _ (fun _ => rfl) (fun w3 _ K hK => by show NilC _ _ _ _ _; rw [nil_ptr]; exact hK) hr
      have fc : ∀ {op : World → (Value → World → Prop) → Prop} (c : Value) {rest : Value → (World → Prop) → Prop}, (∀ w1 K, op w1 K = K c w1) → rest c (fun _ => True) → DetOp Ext (· = ·) w2.drew op rest := fun {op} c {rest} he hr =>
        det_pure c (fun _ => rfl) (fun w3 _ K hK => by rw [he]; exact hK) hr
      refine nc _ (fc _ (fun _ _ => Ty.SEntry_f0) ?_)
      refine nc _ (fc _ (fun _ _ => Ty.SEntry_f1) ?_)
      refine nc _ (fc _ (fun _ _ => Ty.SEntry_f2) ?_)
      refine nc _ (fc _ (fun _ _ => Ty.SEntry_f3) ?_)
      refine nc _ (fc _ (fun _ _ => Ty.SEntry_f4) ?_)
      refine nc _ (fc _ (fun _ _ => Ty.SEntry_f5) ?_)
      refine nc _ (fc _ (fun _ _ => Ty.SEntry_f6) ?_)
      refine nc _ (fc _ (fun _ _ => Ty.SEntry_f7) (fc _ (fun _ _ => Ty.SSpan_f0) ?_))
      refine nc _ (fc _ (fun _ _ => Ty.SEntry_f7) (fc _ (fun _ _ => Ty.SSpan_f1) ?_))
      refine nc _ (fc _ (fun _ _ => Ty.SEntry_f8) ?_)
      refine nc _ (fc _ (fun _ _ => Ty.SEntry_f9) ?_)
      refine nc _ (fc _ (fun _ _ => Ty.SEntry_f10) ?_)
      obtain ⟨ps, hps⟩ : ∃ ps : List Value, ps = (List.range 12).map fun j => Value.pointer (some ⟨b, 1 + j, none⟩) := ⟨_, rfl⟩
      refine ⟨.slice (some ⟨w2.drew.heap.size, 0, none⟩) 12 12, fun w3 => w3.ownsRow w2.heap.size 162 1 (.slice (some ⟨w2.drew.heap.size, 0, none⟩) 12 12) 12 ps, fun _ _ h e => e ▸ h, fun w3 h3 => ?_, ?_⟩
      · subst h3
        refine lit_i ps Ty.ptrs hip hsp hzp (by rw [hps]; intro u hu; simp only [List.mem_map] at hu; obtain ⟨j, _, rfl⟩ := hu; rfl) (by rw [hps]; simp) (by decide) (by decide) (by rw [hps]; rfl) fun g w4 x4 hat hg _ => ?_
        subst hg
        have hpl : ps.length = 12 := by rw [hps]; simp
        have hown := Own.of_lit hat (Nat.le_refl _) (by rw [hpl]; decide)
        rw [hpl] at hown
        exact ⟨rfl, x4, hown⟩
      refine fc _ (fun w1 K => len_slice Ty.ptrs) ?_
      rintro w3 x3 ⟨⟨_, hrow⟩, _⟩
      have x3 : Ext w2 w3 := (Ext.drew w2).trans x3
      have m03 := m02.trans (Mod.of_ext x3 : Mod (· = b) w2 w3)
      have hsl := Sl.of_owns hrow
      have hoffp : Off (· = b) (Value.slice (some ⟨w2.drew.heap.size, 0, none⟩) 12 12) := fun k hk e => by
        have := (Own.block hrow hk).1
        omega
      have hrestK : ∀ (w' : World), Mod (· = b) w w' → ∀ (m : List Int) (v3 : Value) (l3 : List Int), m.length = 12 → l1 = m ++ l3 → RdAt w' b (upTo k m) v3 → Sl w' 1 v3 l3.length (iv l3) → ∀ x, K [x] w' := fun w' m' mm v3 l3 hm he hb' hv' x => by
        match mm, hm with
        | [s, t, kd, se, rf, a, n, lo, hi, te, ag, si], _ =>
          refine hK _ _ ⟨m', Jou.entRec k s t kd se rf a n lo hi te ag si, v3, l3, hb', hv', fun h0 => ?_, fun h0 => ?_⟩
          · rw [hl, he, h0]
            simp only [List.cons_append, List.nil_append, Jou.raw]
            rw [if_neg hk2]
          · rw [hl, he]
            refine raw_other hk2 ?_
            cases l3 with
            | nil => exact absurd rfl h0
            | cons _ _ => simp
      refine loop1 (fun x w4 => ∃ (m : List Int) (v3 : Value) (l3 : List Int), m.length ≤ 12 ∧ x = .int .i64 m.length ∧ l1 = m ++ l3 ∧ RdAt w4 b (upTo k m) v3 ∧ Sl w4 1 v3 l3.length (iv l3) ∧ (l3 ≠ [] → Off (· = b) v3) ∧ Mod (· = b) w3 w4) (fun x _ => 12 - (intOf x).toNat)
        ⟨[], v1, l1, by simp, rfl, rfl, hb2.ext x3, hv2.ext x3, hoff1, Mod.refl _ _⟩ ?_
      rintro hh _ w4 h87 ⟨m, v3, l3, hm, rfl, he, hb4, hv4, hoff4, m4⟩ K2 hK2
      rw [h87, bin_lss]
      refine Br_i (fun hb0 => ?_) fun hb0 => ?_
      · have hlt12 : m.length < 12 := by have := dec_t hb0; omega
        obtain ⟨g, o, hc, _, hix⟩ := (hsl.mod m4 hoffp).index Ty.ptrs hip hsp (k := .i64) hlt12 (by decide)
        rw [hix, load_cell Ty.ptr_agg (u := .pointer (some ⟨b, 1 + m.length, none⟩)) (by rw [Nat.mul_one]; exact hc _ _ (by rw [hps]; simp [hlt12])), nil_ptr, rdr_f1]
        refine take_use (upTo_length hm) hb4 hv4 hoff4 (fun h => bad w4 (m03.trans m4) ?_) fun n l5 v5 w5 hl3 m5 hs5 hb5 hv5 hoff5 => ?_
        · rw [hl, he, h, List.append_nil]
          exact raw_other hk2 (by simp only [List.length_cons]; omega)
        rw [nil_ptr]
        refine store_i Ty.int_size hb5 (by simp [upTo_length hm]; omega) rfl fun w6 m6 hb6 hs6 => ?_
        rw [set_cell (upTo_length hm) (by omega), upTo_set hlt12] at hb6
        rw [bin_add, i64_wrap (by omega) (by omega)]
        refine hK2 _ _ ⟨m ++ [n], v5, l5, by simp; omega, by simp, by rw [he, hl3]; simp, hb6, hv5.mod_ne m6 fun hne => hoff5 (by rintro rfl; exact hne rfl), hoff5, (m4.trans m5).trans m6⟩ (by simp [intOf]; omega)
      · have hge := dec_f hb0
        exact hrestK w4 (m03.trans m4) m v3 l3 (by omega) he hb4 hv4 _
end Go.Proofs.YtoeblipchoglaaaGreatDoor
namespace Go.Proofs.YtoeblipchoglaaaGreatDoor
set_option maxRecDepth 100000
open Sh Go.RowKit
theorem strange_store (b : Nat) (w : World) : (Instr.storeAt 149 (.pointer (some ⟨b, 0, none⟩)) (.agg #[])).run Tryz.prog w = .ok () w := by
  have e : (sizeOf 149).run Tryz.prog w = .ok 0 w := Ty.strange_size w
  simp [Instr.storeAt, Instr.sureAddr, storeVar, Value.cells, storeCells, e]
def OutAt (w : World) (bo bk : Nat) (r : SRecord) (k : Bool) : Prop := At w bo (.cells r.cells.toArray 64 (0, 0)) ∧ At w bk (.cells #[.bool k] 4 (0, 0))
theorem closed_panicking {bo bk : Nat} {r : SRecord} {k : Bool} (older : List PanicEntry) (w : World) (ho : OutAt w bo bk r k) :
    CallsD Tryz.prog 119 #[.pointer (some ⟨bo, 0, none⟩), .pointer (some ⟨bk, 0, none⟩)] (.panicking ({ v := strangeV, recovered := false } :: older)) w fun e u' w' =>
      u' = .panicking ({ v := strangeV, recovered := true } :: older) ∧ e = .returned (.tuple #[]) ∧ OutAt w' bo bk SRecord.zero false ∧ Mod (fun k => k = bo ∨ k = bk) w w' := by
  refine sh_journal_record_1_ok _ _ ?_
  unfold sh_journal_record_1
  obtain ⟨h1, h2⟩ := ho
  have hne : bo ≠ bk := At.inj h1 h2 (by decide)
  have e1 : recV (.panicking ({ v := strangeV, recovered := false } :: older)) = strangeV := rfl
  rw [e1]
  have e3 : ∀ w, (Instr.typeAssert strangeV 20 149 true).run Tryz.prog w = .ok (.tuple #[.agg #[], .bool true]) w := by intro w; kernel_rfl
  rw [DoV_ok (e3 w), ext2_0, ext2_1]
  refine alloc_i Ty.strange_zero fun b w1 x1 hat hb _ => ?_
  rw [DoU_ok (strange_store b w1)]
  refine br_t ?_
  rw [build_i SRecord.zero_new]
  refine store_all Ty.SRecord_size (h1.ext x1) rfl rfl (by intro u hu; exact SRecord.one SRecord.zero u hu) fun w2 m2 h12 s2 => ?_
  refine store_i Ty.bool_size ((h2.ext x1).mod m2 (fun e => hne e.symm)) (by simp) rfl fun w3 m3 h23 s3 => ?_
  refine ⟨rfl, ⟨h12.mod m3 hne, h23⟩, ?_⟩
  exact ((Mod.of_ext x1).comp m2 (fun _ _ h => h) (fun _ _ h => .inl h)).comp m3 (fun _ _ h => h) (fun _ _ h => .inr h)
theorem closed_idle {bo bk : Nat} (w : World) :
    CallsD Tryz.prog 119 #[.pointer (some ⟨bo, 0, none⟩), .pointer (some ⟨bk, 0, none⟩)] .returning w fun e u' w' => u' = .returning ∧ e = .returned (.tuple #[]) ∧ Ext w w' := by
  refine sh_journal_record_1_ok _ _ ?_
  unfold sh_journal_record_1
  have e1 : recV .returning = .nilIface := rfl
  rw [e1]
  have e2 : ∀ w, (binS BinOp.neq 20 (Operand.tmp 13) (Operand.const Value.nilIface) .nilIface Value.nilIface).run Tryz.prog w = .ok (.bool false) w := by intro w; kernel_rfl
  have e3 : ∀ w, (Instr.typeAssert .nilIface 20 149 true).run Tryz.prog w = .ok (.tuple #[.agg #[], .bool false]) w := by intro w; kernel_rfl
  rw [DoV_ok (e3 w), ext2_0, ext2_1]
  refine alloc_i Ty.strange_zero fun b w1 x1 hat hb _ => ?_
  rw [DoU_ok (strange_store b w1)]
  refine br_f ?_
  rw [DoV_ok (e2 w1)]
  refine br_f ?_
  exact ⟨rfl, x1⟩
theorem go40 : goes Tryz.prog 119 = true := by kernel_rfl
theorem rec_results (tmps : Array Value) (bo bk : Nat) (r : SRecord) (k : Bool) (w : World) (h2 : tmps.getD 2 undef = .pointer (some ⟨bo, 0, none⟩)) (h3 : tmps.getD 3 undef = .pointer (some ⟨bk, 0, none⟩)) (ho : OutAt w bo bk r k) :
    (results Tryz.f94 tmps).run Tryz.prog w = .ok (.tuple #[.agg r.cells.toArray, .bool k]) w := by
  have hr : Tryz.f94.results = #[.cell 2 64, .cell 3 4] := rfl
  have l1 : (loadVar 64 ⟨bo, 0, none⟩).run Tryz.prog w = .ok (.agg r.cells.toArray) w := loadVar_agg Ty.SRecord_agg Ty.SRecord_size (xs := r.cells) rfl (has_of_at ho.1)
  have l2 : (loadVar 4 ⟨bk, 0, none⟩).run Tryz.prog w = .ok (.bool k) w := loadVar_at Ty.bool_agg ho.2 rfl
  rw [Array.getD_eq_getD_getElem?] at h2 h3
  simp [results, h2, h3, asAddr, l1, l2]
def RecordQ (l : List Int) (w : World) (v : Value) (w' : World) : Prop :=
  Ext w w' ∧ ∃ r : SRecord, v = .tuple #[.agg r.cells.toArray, .bool (Jou.rec_ l).isSome] ∧ ∀ r', Jou.rec_ l = some r' → r' = r
theorem record_ret {v : Value} {l : List Int} (w : World) (hv : Sl w 1 v l.length (iv l)) : Ret Tryz.prog 94 #[v] w (RecordQ l w) := by
  refine ret_of (fun _ _ => sh_journal_record_ok _) fun R hR => ?_
  unfold sh_journal_record
  refine alloc_i Ty.SRecord_zero fun bo w1 x1 hbo e1 s1 => ?_
  refine alloc_i Ty.bool_zero fun bk w2 x2 hbk e2 s2 => ?_
  rw [mk_func]
  show DoV _ _ _ _ _
  have hvc : v.cells = #[v] := Sl.cells hv
  rw [build_i (Ty.src_new v hvc), build_i (Ty.rdr_new v)]
  refine alloc_i Ty.rdr_zero fun br w3 x3 hbr e3 s3 => ?_
  refine store_all Ty.rdr_size hbr rfl rfl (by
    intro u hu
    have hu : u ∈ SRecord.zero.cells ++ [v] := hu
    rcases List.mem_append.1 hu with hu | hu
    · exact SRecord.one _ u hu
    · simp only [List.mem_singleton] at hu; subst hu; exact Sl.one hv) fun w4 m4 hbr4 s4 => ?_
  have hbr4 : RdAt w4 br SRecord.zero.cells v := hbr4
  have z1 := x1.size
  have z2 := x2.size
  have z3 := x3.size
  have m04 : Mod (w.heap.size ≤ ·) w w4 := ((((Mod.of_ext x1 : Mod (w.heap.size ≤ ·) w w1).trans (.of_ext x2)).trans (.of_ext x3)).trans (m4.mono fun k _ h => by omega))
  have hout4 : OutAt w4 bo bk SRecord.zero false := ⟨((hbo.ext x2).ext x3).mod m4 (by omega), (hbk.ext x3).mod m4 (by omega)⟩
  have hv4 := hv.ext m04.new
  have hoff : l ≠ [] → Off (· = br) v := fun hne k hk e => by
    have := hv.old (by simp [iv, hne]) hk
    omega
  have hlv : ∀ (tmps : Array Value), (∀ p ∈ [(2, Value.pointer (some ⟨bo, 0, none⟩)), (3, Value.pointer (some ⟨bk, 0, none⟩))], tmps.getD p.1 undef = p.2) → tmps.getD 2 undef = .pointer (some ⟨bo, 0, none⟩) ∧ tmps.getD 3 undef = .pointer (some ⟨bk, 0, none⟩) := fun tmps ht => ⟨ht (2, _) (by simp), ht (3, _) (by simp)⟩
  refine callF_of (jread_ret w4 hbr4 hv4 hoff) ?_ ?_ ?_
  · intro x w5 hq
    obtain ⟨m5, hq⟩ := hq
    cases hr : Jou.rec_ l with
    | none => rw [hr] at hq; exact absurd hq (by simp)
    | some r =>
      rw [hr] at hq
      obtain ⟨_, v', hb5⟩ := hq
      have hout5 : OutAt w5 bo bk SRecord.zero false := ⟨hout4.1.mod m5 (by omega), hout4.2.mod m5 (by omega)⟩
      have hh : Has w5 br 0 r.cells := fun j u hu => has_of_at (show At w5 br _ from hb5) j u (by rw [List.getElem?_append_left (List.getElem?_eq_some_iff.1 hu).1]; exact hu)
      rw [rdr_f0, SRecord.g_all hh]
      refine store_all Ty.SRecord_size hout5.1 rfl rfl (by intro u hu; exact SRecord.one r u hu) fun w6 m6 h6 s6 => ?_
      refine store_i Ty.bool_size (hout5.2.mod m6 (by omega)) (by simp) rfl fun w7 m7 h7 s7 => ?_
      have hout7 : OutAt w7 bo bk r true := ⟨h6.mod m7 (by omega), h7⟩
      have m07 : Mod (w.heap.size ≤ ·) w w7 := ((m04.trans (m5.mono fun k _ h => by omega)).trans (m6.mono fun k _ h => by omega)).trans (m7.mono fun k _ h => by omega)
      intro tmps ht
      obtain ⟨t2, t3⟩ := hlv tmps ht
      refine leaves_cons (f := 119) (args := #[.pointer (some ⟨bo, 0, none⟩), .pointer (some ⟨bk, 0, none⟩)]) (by simp) (by simp [invoke, run_goes go40]) ?_
      refine (closed_idle w7).mono ?_
      rintro e u' w8 ⟨rfl, rfl, x8⟩
      refine ⟨_, rec_results tmps bo bk r true w8 t2 t3 ⟨hout7.1.ext x8, hout7.2.ext x8⟩, hR _ _ ⟨m07.new.trans x8, r, by rw [hr]; rfl, fun r' h => ?_⟩⟩
      rw [hr] at h; cases h; rfl
  · intro ch w5 hq
    obtain ⟨m5, hq⟩ := hq
    cases hr : Jou.rec_ l with
    | some r => rw [hr] at hq; exact absurd hq.1 (by simp)
    | none =>
      rw [hr] at hq
      cases hq
      have hout5 : OutAt w5 bo bk SRecord.zero false := ⟨hout4.1.mod m5 (by omega), hout4.2.mod m5 (by omega)⟩
      intro tmps ht
      obtain ⟨t2, t3⟩ := hlv tmps ht
      refine leaves_cons (f := 119) (args := #[.pointer (some ⟨bo, 0, none⟩), .pointer (some ⟨bk, 0, none⟩)]) (by simp) (by simp [invoke, run_goes go40]) ?_
      refine (closed_panicking [] w5 hout5).mono ?_
      rintro e u' w8 ⟨rfl, rfl, h8, m8⟩
      have m08 : Mod (w.heap.size ≤ ·) w w8 := (m04.trans (m5.mono fun k _ h => by omega)).trans (m8.mono fun k _ h => by omega)
      refine ⟨_, rec_results tmps bo bk _ _ w8 t2 t3 h8, hR _ _ ⟨m08.new, SRecord.zero, by rw [hr]; rfl, fun r' h => ?_⟩⟩
      rw [hr] at h; cases h
  · intro w5 hq
    obtain ⟨m5, hq⟩ := hq
    cases hr : Jou.rec_ l with
    | none => rw [hr] at hq; exact absurd hq (by simp)
    | some r => rw [hr] at hq; exact absurd hq.1 (by simp)
end Go.Proofs.YtoeblipchoglaaaGreatDoor
namespace Go.Proofs.YtoeblipchoglaaaGreatDoor
open Sh Go.RowKit
set_option maxRecDepth 100000
set_option maxHeartbeats 2000000
end Go.Proofs.YtoeblipchoglaaaGreatDoor
namespace Go.Proofs.YtoeblipchoglaaaGreatDoor
set_option maxRecDepth 100000
set_option maxHeartbeats 2000000
open Sh Go.RowKit
namespace Jou
theorem keptL_drop {l : List SRecord} {k : Nat} (h : k < l.length) (out : List SEntry) : keptL out (l.drop k) = if l[k].kind = 1 then (if l[k].entry.seq = (out.length : Int) + 1 then keptL (out ++ [l[k].entry]) (l.drop (k + 1)) else none) else if l[k].seq = (out.length : Int) then keptL out (l.drop (k + 1)) else none := by
  rw [List.drop_eq_getElem_cons h]; rfl
def kept (l : List SRecord) : Option (List SEntry) := keptL [] l
end Jou
theorem form_kind {r : SRecord} (h : Jou.form r = true) : r.kind = 1 ∨ r.kind = 2 := by
  unfold Jou.form at h
  split at h
  · exact .inl (by assumption)
  · simp only [Bool.and_eq_true, decide_eq_true_eq] at h
    exact .inr h.1
def KeptAt (w0 : World) (l : List SRecord) (k : Nat) (x : Value) (w : World) : Prop :=
  k ≤ l.length ∧ ∃ out, SEntry.Owns w0.heap.size w x out ∧ Mod (w0.heap.size ≤ ·) w0 w ∧ Jou.kept l = Jou.keptL out (l.drop k) ∧ out.length ≤ k
def KeptQ (l : List SRecord) (w : World) (r : Value) (w' : World) : Prop :=
  ∃ x, r = .tuple #[x, .bool (Jou.kept l).isSome] ∧ SEntry.Row w' x ((Jou.kept l).getD []) ∧ Ext w w'
def KeptQO (l : List SRecord) (w : World) (r : Value) (w' : World) : Prop :=
  ∃ x, r = .tuple #[x, .bool (Jou.kept l).isSome] ∧ SEntry.Owns w.heap.size w' x ((Jou.kept l).getD []) ∧ Ext w w'
theorem Kept_own {v : Value} {l : List SRecord} (w : World) (h : SRecord.Row w v l) (hl : l.length ≤ 1000000) (hf : ∀ r ∈ l, Jou.form r = true) : Ret Tryz.prog 53 #[v] w (KeptQO l w) := by
  refine ret_of (fun _ _ => sh_landfallref40_Kept_ok _) fun R hR => ?_
  unfold sh_landfallref40_Kept
  have hnone : ∀ w', Ext w w' → Jou.kept l = none → R (.returned (.tuple #[.slice none 0 0, .bool false])) w' := fun w' x e => hR _ _ ⟨_, by rw [e]; rfl, by rw [e]; exact SEntry.owns_nil _ _, x⟩
  refine loop2 (fun x y w1 => ∃ k : Nat, y = .int .i64 k ∧ KeptAt w l k x w1) (fun _ y _ => l.length - (intOf y).toNat) ⟨0, rfl, by omega, [], SEntry.owns_nil _ _, Mod.refl _ _, by simp [Jou.kept], by simp⟩ ?_
  rintro hh x _ w1 hx hy ⟨k, rfl, hk, out, ho, hm, hkept, hlen⟩ K hK
  have x1 := hm.new
  rw [SRecord.row_len (Sl.ext h x1), hy, bin_lss]
  refine Br_i (fun hb => ?_) fun hb => ?_
  · have hlt : k < l.length := by have := dec_t hb; omega
    rw [Jou.keptL_drop hlt] at hkept
    have hfk := form_kind (hf l[k] (List.getElem_mem hlt))
    refine join1 (fun x' w' => KeptAt w l (k + 1) x' w') ?_ fun K4 hK4 => ?_
    · rintro h4 x' w2 h4x hq
      rw [h4x, bin_add, i64_wrap (by omega) (by omega)]
      exact hK _ _ _ ⟨k + 1, by simp, hq⟩ (by simp [intOf]; omega)
    · obtain ⟨b, o, hhas, hbl, hix⟩ := SRecord.row_at h hlt
      have hv := hhas w1 x1
      rw [hix, SRecord.g_kind hv, bin_eql]
      refine Br_i (fun hb => ?_) fun hb => ?_
      · have h2 := dec_t hb
        rw [if_neg (by omega)] at hkept
        rw [hix, SRecord.g_seq hv, hx, SEntry.row_len (Sl.of_owns ho), bin_neq]
        refine Br_i (fun hb => ?_) fun hb => ?_
        · have hne : ¬ l[k].seq = (out.length : Int) := by simpa using hb
          rw [if_neg hne] at hkept
          exact hnone _ x1 hkept
        · have he : l[k].seq = (out.length : Int) := by simpa using hb
          rw [if_pos he] at hkept
          exact hK4 _ _ ⟨by omega, out, ho, hm, hkept, by omega⟩
      · have h2 := dec_f hb
        have h1 : l[k].kind = 1 := by omega
        rw [if_pos h1] at hkept
        rw [hix, SRecord.g_entry_seq hv, hx, SEntry.row_len (Sl.of_owns ho), bin_add, i64_wrap (by omega) (by omega), bin_neq]
        refine Br_i (fun hb => ?_) fun hb => ?_
        · have hne : ¬ l[k].entry.seq = (out.length : Int) + 1 := by simpa using hb
          rw [if_neg hne] at hkept
          exact hnone _ x1 hkept
        · have he : l[k].entry.seq = (out.length : Int) + 1 := by simpa using hb
          rw [if_pos he] at hkept
          rw [hix, SRecord.g_entry hv]
          have z1 := x1.size
          refine SEntry.row_app ho (by omega) z1 fun v' w2 ho2 m2 => ?_
          exact hK4 _ _ ⟨by omega, _, ho2, hm.trans m2, hkept, by simp; omega⟩
  · have hge : l.length ≤ k := by have := dec_f hb; omega
    rw [List.drop_eq_nil_of_le hge] at hkept
    have hkept : Jou.kept l = some out := hkept
    refine hR _ _ ⟨_, by rw [hkept, hx]; rfl, by rw [hkept]; exact ho, x1⟩
end Go.Proofs.YtoeblipchoglaaaGreatDoor
