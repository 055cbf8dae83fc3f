/- The walks of the journal's record and of the reference's Record. -/
import Derived.Test.YtahplhcijlgelaaJouW2
import Derived.Defers
import Derived.Recover
namespace Go.Proofs.Ytahplhcijlgelaa
set_option maxRecDepth 100000
open Sh Go.RowKit
theorem strange_store (b : Nat) (w : World) : (Instr.storeAt 75 (.pointer (some ⟨b, 0, none⟩)) (.agg #[])).run Try.prog w = .ok () w := by
  have e : (sizeOf 75).run Try.prog w = .ok 0 w := Ty.strange_size w
  simp [Instr.storeAt, Instr.sureAddr, storeVar, Value.cells, storeCells, e]
def OutAt (w : World) (bo bk : Nat) (r : SRecord) (k : Bool) : Prop := At w bo (.cells r.cells.toArray 29 (0, 0)) ∧ At w bk (.cells #[.bool k] 4 (0, 0))
theorem closed_panicking {bo bk : Nat} {r : SRecord} {k : Bool} (older : List PanicEntry) (w : World) (ho : OutAt w bo bk r k) :
    CallsD Try.prog 40 #[.pointer (some ⟨bo, 0, none⟩), .pointer (some ⟨bk, 0, none⟩)] (.panicking ({ v := strangeV, recovered := false } :: older)) w fun e u' w' =>
      u' = .panicking ({ v := strangeV, recovered := true } :: older) ∧ e = .returned (.tuple #[]) ∧ OutAt w' bo bk SRecord.zero false ∧ Mod (fun k => k = bo ∨ k = bk) w w' := by
  refine sh_journal_record_1_ok _ _ ?_
  unfold sh_journal_record_1
  obtain ⟨h1, h2⟩ := ho
  have hne : bo ≠ bk := At.inj h1 h2 (by decide)
  have e1 : recV (.panicking ({ v := strangeV, recovered := false } :: older)) = strangeV := rfl
  rw [e1]
  have e3 : ∀ w, (Instr.typeAssert strangeV 20 75 true).run Try.prog w = .ok (.tuple #[.agg #[], .bool true]) w := by intro w; kernel_rfl
  rw [DoV_ok (e3 w), ext2_0, ext2_1]
  refine alloc_i Ty.strange_zero fun b w1 x1 hat hb _ => ?_
  rw [DoU_ok (strange_store b w1)]
  refine br_t ?_
  rw [build_i SRecord.zero_new]
  refine store_all Ty.SRecord_size (h1.ext x1) rfl rfl (by intro u hu; exact SRecord.one SRecord.zero u hu) fun w2 m2 h12 s2 => ?_
  refine store_i Ty.bool_size ((h2.ext x1).mod m2 (fun e => hne e.symm)) (by simp) rfl fun w3 m3 h23 s3 => ?_
  refine ⟨rfl, ⟨h12.mod m3 hne, h23⟩, ?_⟩
  exact ((Mod.of_ext x1).comp m2 (fun _ _ h => h) (fun _ _ h => .inl h)).comp m3 (fun _ _ h => h) (fun _ _ h => .inr h)
theorem closed_idle {bo bk : Nat} (w : World) :
    CallsD Try.prog 40 #[.pointer (some ⟨bo, 0, none⟩), .pointer (some ⟨bk, 0, none⟩)] .returning w fun e u' w' => u' = .returning ∧ e = .returned (.tuple #[]) ∧ Ext w w' := by
  refine sh_journal_record_1_ok _ _ ?_
  unfold sh_journal_record_1
  have e1 : recV .returning = .nilIface := rfl
  rw [e1]
  have e2 : ∀ w, (binS BinOp.neq 20 (Operand.tmp 13) (Operand.const Value.nilIface) .nilIface Value.nilIface).run Try.prog w = .ok (.bool false) w := by intro w; kernel_rfl
  have e3 : ∀ w, (Instr.typeAssert .nilIface 20 75 true).run Try.prog w = .ok (.tuple #[.agg #[], .bool false]) w := by intro w; kernel_rfl
  rw [DoV_ok (e3 w), ext2_0, ext2_1]
  refine alloc_i Ty.strange_zero fun b w1 x1 hat hb _ => ?_
  rw [DoU_ok (strange_store b w1)]
  refine br_f ?_
  rw [DoV_ok (e2 w1)]
  refine br_f ?_
  exact ⟨rfl, x1⟩
theorem go40 : goes Try.prog 40 = true := by kernel_rfl
theorem rec_results (tmps : Array Value) (bo bk : Nat) (r : SRecord) (k : Bool) (w : World) (h2 : tmps.getD 2 undef = .pointer (some ⟨bo, 0, none⟩)) (h3 : tmps.getD 3 undef = .pointer (some ⟨bk, 0, none⟩)) (ho : OutAt w bo bk r k) :
    (results Try.f29 tmps).run Try.prog w = .ok (.tuple #[.agg r.cells.toArray, .bool k]) w := by
  have hr : Try.f29.results = #[.cell 2 29, .cell 3 4] := rfl
  have l1 : (loadVar 29 ⟨bo, 0, none⟩).run Try.prog w = .ok (.agg r.cells.toArray) w := loadVar_agg Ty.SRecord_agg Ty.SRecord_size (xs := r.cells) rfl (has_of_at ho.1)
  have l2 : (loadVar 4 ⟨bk, 0, none⟩).run Try.prog w = .ok (.bool k) w := loadVar_at Ty.bool_agg ho.2 rfl
  rw [Array.getD_eq_getD_getElem?] at h2 h3
  simp [results, h2, h3, asAddr, l1, l2]
/-- What record of either kind returns. -/
def RecordQ (l : List Int) (w : World) (v : Value) (w' : World) : Prop :=
  Ext w w' ∧ ∃ r : SRecord, v = .tuple #[.agg r.cells.toArray, .bool (Jou.rec_ l).isSome] ∧ ∀ r', Jou.rec_ l = some r' → r' = r
theorem record_ret {v : Value} {l : List Int} (w : World) (hv : Sl w 1 v l.length (iv l)) : Ret Try.prog 29 #[v] w (RecordQ l w) := by
  refine ret_of (fun _ _ => sh_journal_record_ok _) fun R hR => ?_
  unfold sh_journal_record
  refine alloc_i Ty.SRecord_zero fun bo w1 x1 hbo e1 s1 => ?_
  refine alloc_i Ty.bool_zero fun bk w2 x2 hbk e2 s2 => ?_
  rw [mk_func]
  show DoV _ _ _ _ _
  have hvc : v.cells = #[v] := Sl.cells hv
  rw [build_i (Ty.src_new v hvc), build_i (Ty.rdr_new v)]
  refine alloc_i Ty.rdr_zero fun br w3 x3 hbr e3 s3 => ?_
  refine store_all Ty.rdr_size hbr rfl rfl (by
    intro u hu
    have hu : u ∈ SRecord.zero.cells ++ [v] := hu
    rcases List.mem_append.1 hu with hu | hu
    · exact SRecord.one _ u hu
    · simp only [List.mem_singleton] at hu; subst hu; exact Sl.one hv) fun w4 m4 hbr4 s4 => ?_
  have hbr4 : RdAt w4 br SRecord.zero.cells v := hbr4
  have z1 := x1.size
  have z2 := x2.size
  have z3 := x3.size
  have m04 : Mod (w.heap.size ≤ ·) w w4 := ((((Mod.of_ext x1 : Mod (w.heap.size ≤ ·) w w1).trans (.of_ext x2)).trans (.of_ext x3)).trans (m4.mono fun k _ h => by omega))
  have hout4 : OutAt w4 bo bk SRecord.zero false := ⟨((hbo.ext x2).ext x3).mod m4 (by omega), (hbk.ext x3).mod m4 (by omega)⟩
  have hv4 := hv.ext m04.new
  have hoff : l ≠ [] → Off (· = br) v := fun hne k hk e => by
    have := hv.old (by simp [iv, hne]) hk
    omega
  have hlv : ∀ (tmps : Array Value), (∀ p ∈ [(2, Value.pointer (some ⟨bo, 0, none⟩)), (3, Value.pointer (some ⟨bk, 0, none⟩))], tmps.getD p.1 undef = p.2) → tmps.getD 2 undef = .pointer (some ⟨bo, 0, none⟩) ∧ tmps.getD 3 undef = .pointer (some ⟨bk, 0, none⟩) := fun tmps ht => ⟨ht (2, _) (by simp), ht (3, _) (by simp)⟩
  refine callF_of (jread_ret w4 hbr4 hv4 hoff) ?_ ?_ ?_
  · intro x w5 hq
    obtain ⟨m5, hq⟩ := hq
    cases hr : Jou.rec_ l with
    | none => rw [hr] at hq; exact absurd hq (by simp)
    | some r =>
      rw [hr] at hq
      obtain ⟨_, v', hb5⟩ := hq
      have hout5 : OutAt w5 bo bk SRecord.zero false := ⟨hout4.1.mod m5 (by omega), hout4.2.mod m5 (by omega)⟩
      have hh : Has w5 br 0 r.cells := fun j u hu => has_of_at (show At w5 br _ from hb5) j u (by rw [List.getElem?_append_left (List.getElem?_eq_some_iff.1 hu).1]; exact hu)
      rw [rdr_f0, SRecord.g_all hh]
      refine store_all Ty.SRecord_size hout5.1 rfl rfl (by intro u hu; exact SRecord.one r u hu) fun w6 m6 h6 s6 => ?_
      refine store_i Ty.bool_size (hout5.2.mod m6 (by omega)) (by simp) rfl fun w7 m7 h7 s7 => ?_
      have hout7 : OutAt w7 bo bk r true := ⟨h6.mod m7 (by omega), h7⟩
      have m07 : Mod (w.heap.size ≤ ·) w w7 := ((m04.trans (m5.mono fun k _ h => by omega)).trans (m6.mono fun k _ h => by omega)).trans (m7.mono fun k _ h => by omega)
      intro tmps ht
      obtain ⟨t2, t3⟩ := hlv tmps ht
      refine leaves_cons (f := 40) (args := #[.pointer (some ⟨bo, 0, none⟩), .pointer (some ⟨bk, 0, none⟩)]) (by simp) (by simp [invoke, run_goes go40]) ?_
      refine (closed_idle w7).mono ?_
      rintro e u' w8 ⟨rfl, rfl, x8⟩
      refine ⟨_, rec_results tmps bo bk r true w8 t2 t3 ⟨hout7.1.ext x8, hout7.2.ext x8⟩, hR _ _ ⟨m07.new.trans x8, r, by rw [hr]; rfl, fun r' h => ?_⟩⟩
      rw [hr] at h; cases h; rfl
  · intro ch w5 hq
    obtain ⟨m5, hq⟩ := hq
    cases hr : Jou.rec_ l with
    | some r => rw [hr] at hq; exact absurd hq.1 (by simp)
    | none =>
      rw [hr] at hq
      cases hq
      have hout5 : OutAt w5 bo bk SRecord.zero false := ⟨hout4.1.mod m5 (by omega), hout4.2.mod m5 (by omega)⟩
      intro tmps ht
      obtain ⟨t2, t3⟩ := hlv tmps ht
      refine leaves_cons (f := 40) (args := #[.pointer (some ⟨bo, 0, none⟩), .pointer (some ⟨bk, 0, none⟩)]) (by simp) (by simp [invoke, run_goes go40]) ?_
      refine (closed_panicking [] w5 hout5).mono ?_
      rintro e u' w8 ⟨rfl, rfl, h8, m8⟩
      have m08 : Mod (w.heap.size ≤ ·) w w8 := (m04.trans (m5.mono fun k _ h => by omega)).trans (m8.mono fun k _ h => by omega)
      refine ⟨_, rec_results tmps bo bk _ _ w8 t2 t3 h8, hR _ _ ⟨m08.new, SRecord.zero, by rw [hr]; rfl, fun r' h => ?_⟩⟩
      rw [hr] at h; cases h
  · intro w5 hq
    obtain ⟨m5, hq⟩ := hq
    cases hr : Jou.rec_ l with
    | none => rw [hr] at hq; exact absurd hq (by simp)
    | some r => rw [hr] at hq; exact absurd hq.1 (by simp)
end Go.Proofs.Ytahplhcijlgelaa
