/- The walks of the journal's reader. -/
import Derived.Test.YtahplhcijlgelaaTyJ
namespace Go.Proofs.Ytahplhcijlgelaa
set_option maxRecDepth 100000
open Sh Go.RowKit
/-- The reader's block: a record's cells, and what is left. -/
def RdAt (w : World) (b : Nat) (cs : List Value) (v : Value) : Prop := At w b (.cells (cs ++ [v]).toArray 80 (0, 0))
theorem set_last {cs : List Value} {v v' : Value} (h : cs.length = 15) : (cs ++ [v]).toArray.setIfInBounds 15 v' = (cs ++ [v']).toArray := by
  apply Array.ext'
  simp [h]
theorem set_cell {cs : List Value} {v u : Value} {k : Nat} (h : cs.length = 15) (hk : k < 15) : (cs ++ [v]).toArray.setIfInBounds k u = (cs.set k u ++ [v]).toArray := by
  apply Array.ext'
  simp [h, hk]
/-- What take gives. -/
def TakeQ (b : Nat) (cs : List Value) (v : Value) (l : List Int) (w : World) (e : Ending) (w' : World) : Prop :=
  match l with
  | [] => e = .panicked [{ v := strangeV, recovered := false }] ∧ w' = w
  | n :: r => e = .returned (.int .i64 n) ∧ Mod (· = b) w w' ∧ w'.heap.size = w.heap.size ∧ ∃ v', RdAt w' b cs v' ∧ Sl w' 1 v' r.length (iv r) ∧ ∀ g, v'.ownBlock = some g → v.ownBlock = some g
theorem take_ret {b : Nat} {cs : List Value} {v : Value} {l : List Int} (w : World) (hc : cs.length = 15) (hb : RdAt w b cs v) (hv : Sl w 1 v l.length (iv l)) (hoff : l ≠ [] → Off (· = b) v) :
    Calls Try.prog 48 #[.pointer (some ⟨b, 15, none⟩)] w (TakeQ b cs v l w) := by
  refine sh_journal_source_take_ok _ ?_
  unfold sh_journal_source_take
  obtain ⟨ii, hii, _, his, _⟩ := Ty.info_parts Ty.int_info
  have hu : (cs ++ [v]).toArray[15]? = some v := by simp [hc]
  have hg : ∀ {K : Value → World → Prop} {X : List PanicEntry → World → Prop}, DoV Try.prog (Instr.loadAt 45 (.pointer (some ⟨b, 15, none⟩))) w K X = K v w := fun {K X} => load_e Ty.ints_agg (show At w b _ from hb) hu
  refine join0 (fun w' => w' = w ∧ l ≠ []) ?_ fun K hK => ?_
  · rintro _ w' ⟨hw, hne⟩
    subst w'
    obtain ⟨n, r, rfl⟩ : ∃ n r, l = n :: r := by
      cases l with
      | nil => exact absurd rfl hne
      | cons n r => exact ⟨n, r, rfl⟩
    obtain ⟨g, o, hcell, _, hix⟩ := hv.index Ty.ints hii his (k := .i64) (j := 0) (by simp) (by decide)
    have hix0 : ∀ (w1 : World) (K : Value → World → Prop) (X : List PanicEntry → World → Prop), DoV Try.prog (Instr.indexAt 45 v (.int .i64 0)) w1 K X = K (.pointer (some ⟨g, o + 0 * 1, none⟩)) w1 := hix
    rw [nil_ptr, src_f0, hg, hix0, load_cell Ty.int_agg (u := .int .i64 n) (hcell 0 _ rfl), nil_ptr, src_f0, hg]
    refine slice_from (l := 1) Ty.ints hii his (by decide) hv (by simp) fun v' hv' hown => ?_
    rw [nil_ptr, src_f0]
    refine store_i Ty.ints_size hb (by simp [hc]) (by obtain ⟨a, cap, rfl, _⟩ := hv'; rfl) fun w1 m1 hb1 hs1 => ?_
    rw [set_last hc] at hb1
    have e : (iv (n :: r)).drop (1 * 1) = iv r := rfl
    rw [e, List.length_cons, Nat.add_sub_cancel] at hv'
    refine ⟨rfl, m1, hs1, v', hb1, hv'.mod_ne m1 fun hr => ?_, hown⟩
    intro k hk
    exact hoff (by simp) k (hown k hk)
  · rw [nil_ptr, src_f0, hg, hv.len Ty.ints, bin_eql]
    refine Br_i (fun hb0 => ?_) fun hb0 => ?_
    · have h0 := dec_t hb0
      have : l = [] := List.eq_nil_of_length_eq_zero (by omega)
      subst this
      rw [build_i Ty.strange_new, iface_i Ty.strange_con, panic_i]
      exact ⟨rfl, rfl⟩
    · have h0 := dec_f hb0
      exact hK _ ⟨rfl, fun e => h0 (by rw [e]; rfl)⟩
/-- take, in use: P says what is known of what it left. -/
theorem take_use {b : Nat} {cs : List Value} {v : Value} {l : List Int} {w : World} {K : Value → World → Prop} {X : List PanicEntry → World → Prop} (hc : cs.length = 15) (hb : RdAt w b cs v) (hv : Sl w 1 v l.length (iv l)) (hoff : l ≠ [] → Off (· = b) v)
    (hx : l = [] → X [{ v := strangeV, recovered := false }] w)
    (hk : ∀ n r v' w', l = n :: r → Mod (· = b) w w' → w'.heap.size = w.heap.size → RdAt w' b cs v' → Sl w' 1 v' r.length (iv r) → (r ≠ [] → Off (· = b) v') → K (.int .i64 n) w') :
    CallF Try.prog 48 #[.pointer (some ⟨b, 0 + 15, none⟩)] w K X := by
  refine callF_of (take_ret w hc hb hv hoff) ?_ ?_ ?_
  · intro r w' hq
    unfold TakeQ at hq
    cases l with
    | nil => exact absurd hq.1 (by simp)
    | cons n r =>
      obtain ⟨e, m, hs, v', h1, h2, h3⟩ := hq
      cases e
      exact hk n r v' w' rfl m hs h1 h2 fun _ k hk2 => hoff (by simp) k (h3 k hk2)
  · intro ch w' hq
    unfold TakeQ at hq
    cases l with
    | nil => obtain ⟨e, rfl⟩ := hq; cases e; exact hx rfl
    | cons n r => exact absurd hq.1 (by simp)
  · intro w' hq
    unfold TakeQ at hq
    cases l with
    | nil => exact absurd hq.1 (by simp)
    | cons n r => exact absurd hq.1 (by simp)
theorem part_use {b : Nat} {cs : List Value} {v : Value} {l : List Int} {w : World} {K : Value → World → Prop} {X : List PanicEntry → World → Prop} (hc : cs.length = 15) (hb : RdAt w b cs v) (hv : Sl w 1 v l.length (iv l)) (hoff : l ≠ [] → Off (· = b) v)
    (hx : ∀ w', (∀ n r, l = n :: r → Jou.isHalf n = false) → Mod (· = b) w w' → X [{ v := strangeV, recovered := false }] w')
    (hk : ∀ n r v' w', l = n :: r → Jou.isHalf n = true → Mod (· = b) w w' → w'.heap.size = w.heap.size → RdAt w' b cs v' → Sl w' 1 v' r.length (iv r) → (r ≠ [] → Off (· = b) v') → K (.int .u64 n) w') :
    CallF Try.prog 49 #[.pointer (some ⟨b, 0 + 15, none⟩)] w K X := by
  refine sh_journal_source_part_ok _ ?_
  unfold sh_journal_source_part
  refine take_use hc hb hv hoff (fun h => hx w (fun n r e => by rw [h] at e; cases e) (Mod.refl _ _)) fun n r v' w1 hl m1 hs1 h1 h2 h3 => ?_
  refine join0 (fun w' => w' = w1 ∧ Jou.isHalf n = true) ?_ fun K1 hK1 => ?_
  · rintro _ w' ⟨hw, hh⟩
    subst w'
    have hhalf := hh
    simp only [Jou.isHalf, Bool.and_eq_true, decide_eq_true_eq] at hh
    rw [conv_int Ty.int Ty.u64, show IntKind.u64.wrap n = n by rw [u64w]; omega]
    exact hk n r v' w1 hl hhalf m1 hs1 h1 h2 h3
  · refine join1 (fun x w' => x = .bool (!Jou.isHalf n) ∧ w' = w1) ?_ fun K2 hK2 => ?_
    · rintro _ _ w' hx2 ⟨rfl, hw⟩
      subst w'
      rw [hx2]
      refine Br_i (fun hb0 => ?_) fun hb0 => hK1 _ ⟨rfl, by simpa using hb0⟩
      rw [build_i Ty.strange_new, iface_i Ty.strange_con, panic_i]
      exact hx w1 (fun n' r' e => by rw [hl] at e; cases e; simpa using hb0) m1
    · rw [bin_lss]
      refine Gd_i (fun hb0 => ?_) fun hb0 => ?_
      · have h0 := dec_f hb0
        rw [bin_geq]
        refine hK2 _ _ ⟨?_, rfl⟩
        congr 1
        unfold Jou.isHalf
        rw [decide_eq_true (by omega : 0 ≤ n), Bool.true_and]
        by_cases h : n < 4294967296
        · rw [decide_eq_true h, decide_eq_false (by omega)]; rfl
        · rw [decide_eq_false h, decide_eq_true (by omega)]; rfl
      · have h0 := dec_t hb0
        refine hK2 _ _ ⟨?_, rfl⟩
        congr 1
        unfold Jou.isHalf
        rw [decide_eq_false (by omega : ¬ 0 ≤ n)]; rfl
theorem raw_len {l : List Int} (h4 : l.length ≠ 4) (h13 : l.length ≠ 13) : Jou.raw l = none := by
  unfold Jou.raw
  split
  · exact absurd rfl h4
  · exact absurd rfl h13
  · rfl
theorem raw_two {l : List Int} (h : (2 :: l).length ≠ 4) : Jou.raw (2 :: l) = none := by
  unfold Jou.raw
  split
  · rename_i heq; rw [heq] at h; exact absurd rfl h
  · rename_i heq; cases heq; rfl
  · rfl
theorem raw_other {k : Int} {l : List Int} (hk : k ≠ 2) (h : (k :: l).length ≠ 13) : Jou.raw (k :: l) = none := by
  unfold Jou.raw
  split
  · rename_i heq; cases heq; rw [if_neg (fun h => hk h.1)]
  · rename_i heq; rw [heq] at h; exact absurd rfl h
  · rfl
theorem rec_none {l : List Int} (h : Jou.raw l = none) : Jou.rec_ l = none := by unfold Jou.rec_; rw [h]; rfl
/-- What reading a record gives. -/
def ReadQ (b : Nat) (l : List Int) (w : World) (e : Ending) (w' : World) : Prop :=
  Mod (· = b) w w' ∧ match Jou.rec_ l with
  | none => e = .panicked [{ v := strangeV, recovered := false }]
  | some r => e = .returned (.tuple #[]) ∧ ∃ v', RdAt w' b r.cells v'
/-- cells of a record whose entry is read up to i -/
def upTo (k : Int) (m : List Int) : List Value := .int .i64 k :: (iv m ++ List.replicate (12 - m.length) (.int .i64 0)) ++ [.int .i64 0, u64v 0]
theorem upTo_length {k : Int} {m : List Int} (h : m.length ≤ 12) : (upTo k m).length = 15 := by simp [upTo, iv]; omega
theorem upTo_set {k n : Int} {m : List Int} (h : m.length < 12) : (upTo k m).set (1 + m.length) (.int .i64 n) = upTo k (m ++ [n]) := by
  unfold upTo
  rw [show 1 + m.length = m.length + 1 by omega, List.cons_append, List.set_cons_succ, List.append_assoc, List.set_append_right _ _ (by simp [iv])]
  obtain ⟨q, hq⟩ : ∃ q, 12 - m.length = q + 1 := ⟨11 - m.length, by omega⟩
  rw [hq, show 12 - (m ++ [n]).length = q by simp; omega]
  simp [iv, List.replicate_succ]
theorem jread_ret {b : Nat} {v : Value} {l : List Int} (w : World) (hb : RdAt w b SRecord.zero.cells v) (hv : Sl w 1 v l.length (iv l)) (hoff : l ≠ [] → Off (· = b) v) :
    Calls Try.prog 41 #[.pointer (some ⟨b, 0, none⟩)] w (ReadQ b l w) := by
  refine sh_journal_reader_read_ok _ ?_
  unfold sh_journal_reader_read
  obtain ⟨ip, hip, hzp, hsp, _⟩ := Ty.info_parts Ty.ptr_info
  have bad : ∀ w', Mod (· = b) w w' → Jou.raw l = none → Pan (ReadQ b l w) [{ v := strangeV, recovered := false }] w' := fun w' m hr => ⟨m, by rw [rec_none hr]⟩
  rw [nil_ptr, rdr_f1]
  refine take_use rfl hb hv hoff (fun hl => bad w (Mod.refl _ _) (by rw [hl]; rfl)) fun k l1 v1 w1 hl m1 hs1 hb1 hv1 hoff1 => ?_
  rw [nil_ptr, rdr_f0, Ty.SRecord_f0]
  refine store_i Ty.int_size hb1 (by simp [SRecord.len]) rfl fun w2 m2 hb2 hs2 => ?_
  have hb2 : RdAt w2 b (upTo k []) v1 := hb2
  have m02 := m1.trans m2
  have hv2 : Sl w2 1 v1 l1.length (iv l1) := hv1.mod_ne m2 fun h => hoff1 (by rintro rfl; exact h rfl)
  refine join1 (fun _ w3 => Mod (· = b) w w3 ∧ ∃ (r : SRecord) (v3 : Value) (l3 : List Int), RdAt w3 b r.cells v3 ∧ Sl w3 1 v3 l3.length (iv l3) ∧ (l3 = [] → Jou.raw l = some r) ∧ (l3 ≠ [] → Jou.raw l = none)) ?_ fun K hK => ?_
  · rintro _ _ w3 _ ⟨m3, r, v3, l3, hb3, hv3, hr3, hn3⟩
    have hload : ∀ {K : Value → World → Prop} {X : List PanicEntry → World → Prop}, DoV Try.prog (Instr.loadAt 45 (.pointer (some ⟨b, 0 + 15, none⟩))) w3 K X = K v3 w3 := fun {K X} => load_e Ty.ints_agg (show At w3 b _ from hb3) rfl
    refine join1 (fun x w4 => ∃ q : Bool, x = .bool q ∧ Mod (· = b) w w4 ∧ (q = false → l3 = [] ∧ Jou.form r = true ∧ RdAt w4 b r.cells v3) ∧ (q = true → Jou.rec_ l = none)) ?_ fun K1 hK1 => ?_
    · rintro _ _ w4 hx ⟨q, rfl, m4, hq0, hq1⟩
      rw [hx]
      refine Br_i (fun hq => ?_) fun hq => ?_
      · rw [build_i Ty.strange_new, iface_i Ty.strange_con, panic_i]
        exact ⟨m4, by rw [hq1 hq]; rfl⟩
      · obtain ⟨h1, h2, h3⟩ := hq0 hq
        refine ⟨m4, ?_⟩
        have e : Jou.rec_ l = some r := by unfold Jou.rec_; rw [hr3 h1, Option.bind_some, if_pos h2]
        rw [e]
        exact ⟨rfl, v3, h3⟩
    · rw [nil_ptr, rdr_f1, src_f0, hload, hv3.len Ty.ints, bin_gtr]
      refine Gd_i (fun hb0 => ?_) fun hb0 => ?_
      · have h0 := dec_f hb0
        have hl3 : l3 = [] := List.eq_nil_of_length_eq_zero (by omega)
        have hh : Has w3 b 0 r.cells := fun j u hu => by
          have := has_of_at (show At w3 b _ from hb3) j u (by rw [List.getElem?_append_left (List.getElem?_eq_some_iff.1 hu).1]; exact hu)
          exact this
        rw [nil_ptr, rdr_f0, SRecord.g_all hh]
        refine callF_ret (isRecord_ret r w3) ?_
        rintro _ w4 ⟨rfl, x4⟩
        rw [un_not]
        refine hK1 _ _ ⟨_, rfl, m3.trans (.of_ext x4), fun hq => ⟨hl3, by simpa using hq, hb3.ext x4⟩, fun hq => ?_⟩
        unfold Jou.rec_
        rw [hr3 hl3, Option.bind_some, if_neg (by simpa using hq)]
      · have h0 := dec_t hb0
        have hl3 : l3 ≠ [] := by rintro rfl; simp at h0
        exact hK1 _ _ ⟨true, rfl, m3, (fun h => by cases h), fun _ => rec_none (hn3 hl3)⟩
  · have hload : ∀ {K : Value → World → Prop} {X : List PanicEntry → World → Prop}, DoV Try.prog (Instr.loadAt 3 (.pointer (some ⟨b, 0, none⟩))) w2 K X = K (.int .i64 k) w2 := fun {K X} => load_e Ty.int_agg (show At w2 b _ from hb2) rfl
    rw [nil_ptr, rdr_f0, Ty.SRecord_f0, hload, bin_eql]
    refine Br_i (fun hb0 => ?_) fun hb0 => ?_
    · have hk2 := dec_t hb0
      subst hk2
      rw [nil_ptr, rdr_f1]
      refine take_use (upTo_length (by simp)) hb2 hv2 hoff1 (fun h => bad w2 m02 (by rw [hl, h]; exact raw_two (by simp))) fun s l2 v3 w3 hl1 m3 hs3 hb3 hv3 hoff3 => ?_
      rw [nil_ptr, rdr_f0, Ty.SRecord_f2]
      refine store_i Ty.int_size hb3 (by simp [upTo_length]) rfl fun w4 m4 hb4 hs4 => ?_
      rw [set_cell (upTo_length (by simp)) (by decide)] at hb4
      have m04 := (m02.trans m3).trans m4
      have hv4 : Sl w4 1 v3 l2.length (iv l2) := hv3.mod_ne m4 fun h => hoff3 (by rintro rfl; exact h rfl)
      have hc4 : ((upTo 2 []).set (0 + 13) (.int .i64 s)).length = 15 := by rw [List.length_set]; exact upTo_length (by simp)
      rw [nil_ptr, rdr_f1]
      refine part_use hc4 hb4 hv4 hoff3 (fun w' hn m' => bad w' (m04.trans m') ?_) fun h l5 v5 w5 hl2 hh5 m5 hs5 hb5 hv5 hoff5 => ?_
      · rw [hl, hl1]
        cases l2 with
        | nil => exact raw_two (by simp)
        | cons a t =>
          match t, hn a t rfl with
          | [], _ => exact raw_two (by simp)
          | [c], hf => simp only [Jou.raw]; rw [if_neg]; rintro ⟨_, h2, _⟩; rw [hf] at h2; cases h2
          | _ :: _ :: _, _ => exact raw_two (by simp)
      have hh := hh5
      simp only [Jou.isHalf, Bool.and_eq_true, decide_eq_true_eq] at hh
      rw [bin_mul, show IntKind.u64.wrap (h * 4294967296) = h * 4294967296 by rw [u64w]; omega, nil_ptr, rdr_f1]
      refine part_use hc4 hb5 hv5 hoff5 (fun w' hn m' => bad w' ((m04.trans m5).trans m') ?_) fun c l6 v6 w6 hl5 hh6 m6 hs6 hb6 hv6 hoff6 => ?_
      · rw [hl, hl1, hl2]
        cases l5 with
        | nil => exact raw_two (by simp)
        | cons a t =>
          match t, hn a t rfl with
          | [], hf => simp only [Jou.raw]; rw [if_neg]; rintro ⟨_, _, h2⟩; rw [hf] at h2; cases h2
          | _ :: _, _ => exact raw_two (by simp)
      have hh2 := hh6
      simp only [Jou.isHalf, Bool.and_eq_true, decide_eq_true_eq] at hh2
      have hcv : Value.int .u64 (IntKind.u64.wrap (h * 4294967296 + c)) = u64v (Jou.chainOf h c) := by
        rw [u64v, Jou.chainOf, BitVec.toNat_ofNat, u64w]
        congr 1; omega
      rw [bin_add, hcv, nil_ptr, rdr_f0, Ty.SRecord_f3]
      refine store_i Ty.u64_size hb6 (by simp [hc4]) rfl fun w7 m7 hb7 hs7 => ?_
      rw [set_cell hc4 (by decide)] at hb7
      have m07 := ((m04.trans m5).trans m6).trans m7
      refine hK _ _ ⟨m07, Jou.chkRec 2 s h c, v6, l6, hb7, hv6.mod_ne m7 fun hne => hoff6 (by rintro rfl; exact hne rfl), fun h0 => ?_, fun h0 => ?_⟩
      · rw [hl, hl1, hl2, hl5, h0]
        simp only [Jou.raw]
        rw [if_pos ⟨trivial, hh5, hh6⟩]
      · rw [hl, hl1, hl2, hl5]
        refine raw_two ?_
        cases l6 with
        | nil => exact absurd rfl h0
        | cons _ _ => simp
    · have hk2 := dec_f hb0
      rw [nil_ptr, rdr_f0, Ty.SRecord_f1]
      have hlt := hb2.lt
      refine ⟨(· = ·), Ext, ⟨fun _ => rfl, fun _ _ _ h1 h2 => h1.trans h2, fun _ _ h => h ▸ Ext.refl _, fun _ _ _ => Ext.trans⟩, ?_⟩
      have nc : ∀ (o : Nat) {rest : Value → (World → Prop) → Prop}, rest (.pointer (some ⟨b, o, none⟩)) (fun _ => True) → DetOp Ext (· = ·) w2.drew (fun w1 K => NilC Try.prog (.pointer (some ⟨b, o, none⟩)) w1 K (Pan (ReadQ b l w))) rest := fun o rest hr =>
        det_pure _ (fun _ => rfl) (fun w3 _ K hK => by show NilC _ _ _ _ _; rw [nil_ptr]; exact hK) hr
      have fc : ∀ {op : World → (Value → World → Prop) → Prop} (c : Value) {rest : Value → (World → Prop) → Prop}, (∀ w1 K, op w1 K = K c w1) → rest c (fun _ => True) → DetOp Ext (· = ·) w2.drew op rest := fun {op} c {rest} he hr =>
        det_pure c (fun _ => rfl) (fun w3 _ K hK => by rw [he]; exact hK) hr
      refine nc _ (fc _ (fun _ _ => Ty.SEntry_f0) ?_)
      refine nc _ (fc _ (fun _ _ => Ty.SEntry_f1) ?_)
      refine nc _ (fc _ (fun _ _ => Ty.SEntry_f2) ?_)
      refine nc _ (fc _ (fun _ _ => Ty.SEntry_f3) ?_)
      refine nc _ (fc _ (fun _ _ => Ty.SEntry_f4) ?_)
      refine nc _ (fc _ (fun _ _ => Ty.SEntry_f5) ?_)
      refine nc _ (fc _ (fun _ _ => Ty.SEntry_f6) ?_)
      refine nc _ (fc _ (fun _ _ => Ty.SEntry_f7) (fc _ (fun _ _ => Ty.SSpan_f0) ?_))
      refine nc _ (fc _ (fun _ _ => Ty.SEntry_f7) (fc _ (fun _ _ => Ty.SSpan_f1) ?_))
      refine nc _ (fc _ (fun _ _ => Ty.SEntry_f8) ?_)
      refine nc _ (fc _ (fun _ _ => Ty.SEntry_f9) ?_)
      refine nc _ (fc _ (fun _ _ => Ty.SEntry_f10) ?_)
      obtain ⟨ps, hps⟩ : ∃ ps : List Value, ps = (List.range 12).map fun j => Value.pointer (some ⟨b, 1 + j, none⟩) := ⟨_, rfl⟩
      refine ⟨.slice (some ⟨w2.drew.heap.size, 0, none⟩) 12 12, fun w3 => w3.ownsRow w2.heap.size 90 1 (.slice (some ⟨w2.drew.heap.size, 0, none⟩) 12 12) 12 ps, fun _ _ h e => e ▸ h, fun w3 h3 => ?_, ?_⟩
      · subst h3
        refine lit_i ps Ty.ptrs hip hsp hzp (by rw [hps]; intro u hu; simp only [List.mem_map] at hu; obtain ⟨j, _, rfl⟩ := hu; rfl) (by rw [hps]; simp) (by decide) (by decide) (by rw [hps]; rfl) fun g w4 x4 hat hg _ => ?_
        subst hg
        have hpl : ps.length = 12 := by rw [hps]; simp
        have hown := Own.of_lit hat (Nat.le_refl _) (by rw [hpl]; decide)
        rw [hpl] at hown
        exact ⟨rfl, x4, hown⟩
      refine fc _ (fun w1 K => len_slice Ty.ptrs) ?_
      rintro w3 x3 ⟨⟨_, hrow⟩, _⟩
      have x3 : Ext w2 w3 := (Ext.drew w2).trans x3
      have m03 := m02.trans (Mod.of_ext x3 : Mod (· = b) w2 w3)
      have hsl := Sl.of_owns hrow
      have hoffp : Off (· = b) (Value.slice (some ⟨w2.drew.heap.size, 0, none⟩) 12 12) := fun k hk e => by
        have := (Own.block hrow hk).1
        omega
      have hrestK : ∀ (w' : World), Mod (· = b) w w' → ∀ (m : List Int) (v3 : Value) (l3 : List Int), m.length = 12 → l1 = m ++ l3 → RdAt w' b (upTo k m) v3 → Sl w' 1 v3 l3.length (iv l3) → ∀ x, K [x] w' := fun w' m' mm v3 l3 hm he hb' hv' x => by
        match mm, hm with
        | [s, t, kd, se, rf, a, n, lo, hi, te, ag, si], _ =>
          refine hK _ _ ⟨m', Jou.entRec k s t kd se rf a n lo hi te ag si, v3, l3, hb', hv', fun h0 => ?_, fun h0 => ?_⟩
          · rw [hl, he, h0]
            simp only [List.cons_append, List.nil_append, Jou.raw]
            rw [if_neg hk2]
          · rw [hl, he]
            refine raw_other hk2 ?_
            cases l3 with
            | nil => exact absurd rfl h0
            | cons _ _ => simp
      refine loop1 (fun x w4 => ∃ (m : List Int) (v3 : Value) (l3 : List Int), m.length ≤ 12 ∧ x = .int .i64 m.length ∧ l1 = m ++ l3 ∧ RdAt w4 b (upTo k m) v3 ∧ Sl w4 1 v3 l3.length (iv l3) ∧ (l3 ≠ [] → Off (· = b) v3) ∧ Mod (· = b) w3 w4) (fun x _ => 12 - (intOf x).toNat)
        ⟨[], v1, l1, by simp, rfl, rfl, hb2.ext x3, hv2.ext x3, hoff1, Mod.refl _ _⟩ ?_
      rintro hh _ w4 h87 ⟨m, v3, l3, hm, rfl, he, hb4, hv4, hoff4, m4⟩ K2 hK2
      rw [h87, bin_lss]
      refine Br_i (fun hb0 => ?_) fun hb0 => ?_
      · have hlt12 : m.length < 12 := by have := dec_t hb0; omega
        obtain ⟨g, o, hc, _, hix⟩ := (hsl.mod m4 hoffp).index Ty.ptrs hip hsp (k := .i64) hlt12 (by decide)
        rw [hix, load_cell Ty.ptr_agg (u := .pointer (some ⟨b, 1 + m.length, none⟩)) (by rw [Nat.mul_one]; exact hc _ _ (by rw [hps]; simp [hlt12])), nil_ptr, rdr_f1]
        refine take_use (upTo_length hm) hb4 hv4 hoff4 (fun h => bad w4 (m03.trans m4) ?_) fun n l5 v5 w5 hl3 m5 hs5 hb5 hv5 hoff5 => ?_
        · rw [hl, he, h, List.append_nil]
          exact raw_other hk2 (by simp only [List.length_cons]; omega)
        rw [nil_ptr]
        refine store_i Ty.int_size hb5 (by simp [upTo_length hm]; omega) rfl fun w6 m6 hb6 hs6 => ?_
        rw [set_cell (upTo_length hm) (by omega), upTo_set hlt12] at hb6
        rw [bin_add, i64_wrap (by omega) (by omega)]
        refine hK2 _ _ ⟨m ++ [n], v5, l5, by simp; omega, by simp, by rw [he, hl3]; simp, hb6, hv5.mod_ne m6 fun hne => hoff5 (by rintro rfl; exact hne rfl), hoff5, (m4.trans m5).trans m6⟩ (by simp [intOf]; omega)
      · have hge := dec_f hb0
        exact hrestK w4 (m03.trans m4) m v3 l3 (by omega) he hb4 hv4 _
end Go.Proofs.Ytahplhcijlgelaa
