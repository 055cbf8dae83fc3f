/- WRITTEN BY structs.py: flat structs of the program. -/
import Derived.Test.YtoeblipchoglaaaGreatDoorZBaseC
import Derived.Test.YtoeblipchoglaaaGreatDoorZBaseB
import Derived.Laws.Small
import Derived.Laws.StructEq
namespace Go.Proofs.YtoeblipchoglaaaGreatDoor
open Sh Go.RowKit Go.WideShapes Go.ChangeShapes
set_option maxRecDepth 100000
def eqList (d : Nat) (xs ys : Array Value) : List (TypeId × Nat × Bool) → Sem Bool
  | [] => pure true
  | (t, o, _) :: r => do
    let a ← part t xs o
    let b ← part t ys o
    let e ← Op.equalIn d t a b
    if e then eqList d xs ys r else pure false
theorem eqFlds {P : Program} {w : World} {d : Nat} {xs ys : Array Value} : ∀ {fs : List Field} {l : List (TypeId × Nat × Bool)}, fs.map (fun f => (f.type, f.offset, f.name == "_")) = l → (∀ p ∈ l, p.2.2 = false) → (Op.eqFields d xs ys fs).run P w = (eqList d xs ys l).run P w
  | [], l, h, _ => by simp only [List.map_nil] at h; subst h; simp [Op.eqFields, eqList]
  | f :: fs, l, h, hb => by
    simp only [List.map_cons] at h
    subst h
    have h1 := hb _ (List.mem_cons_self ..)
    simp only at h1
    have ih := fun w => eqFlds (P := P) (w := w) (d := d) (xs := xs) (ys := ys) (fs := fs) rfl fun p hp => hb p (List.mem_cons_of_mem _ hp)
    have h2 : ¬ f.name = "_" := by simpa using h1
    simp only [Op.eqFields, eqList, Sem.run_bind, Sem.run_ite, ne_eq, h2, not_false_eq_true, if_true]
    generalize (part f.type xs f.offset).run P w = r1
    cases r1 with
    | ok a w1 =>
      simp only [Result.andThen_ok]
      generalize (part f.type ys f.offset).run P w1 = r2
      cases r2 with
      | ok b w2 =>
        simp only [Result.andThen_ok]
        generalize (Op.equalIn d f.type a b).run P w2 = r3
        cases r3 with
        | ok r w3 => cases r <;> simp [ih w3]
        | halt x w3 => simp [Result.andThen]
      | halt x w2 => simp [Result.andThen]
    | halt x w1 => simp [Result.andThen]
theorem part_one {P : Program} {t : TypeId} {cs : Array Value} {o : Nat} {v : Value} {w : World} (ht : ∀ w, (isAgg t).run P w = .ok false w) (h : cs[o]? = some v) : (part t cs o).run P w = .ok v w := by
  obtain ⟨hlt, hv⟩ := Array.getElem?_eq_some_iff.1 h
  simp [part, ht, hlt, hv]
theorem part_agg {P : Program} {t : TypeId} {cs v : List Value} {o n : Nat} {w : World} (ht : ∀ w, (isAgg t).run P w = .ok true w) (hs : ∀ w, (sizeOf t).run P w = .ok n w) (h : (cs.drop o).take n = v) : (part t cs.toArray o).run P w = .ok (.agg v.toArray) w := by
  subst h
  simp [part, ht, hs, List.extract_eq_drop_take']
theorem eq_int {P : Program} {t : TypeId} {w : World} {d : Nat} {x y : Int} (ht : P.underlying t = some (.int .i64)) : (Op.equalIn (d + 1) t (.int .i64 x) (.int .i64 y)).run P w = .ok (decide (x = y)) w := by
  rw [run_equalIn_int w d t .i64 .i64 x y ht, Bool.beq_eq_decide_eq]
structure Hdr where
  a : Option Addr
  n : Nat
  c : Nat
def Hdr.val (h : Hdr) : Value := .slice h.a h.n h.c
theorem Hdr.of_sl {w : World} {sz n : Nat} {v : Value} {xs : List Value} (h : Sl w sz v n xs) : ∃ d : Hdr, v = d.val := by
  obtain ⟨a, c, rfl, _⟩ := h
  exact ⟨⟨a, n, c⟩, rfl⟩
def Has (w : World) (b o : Nat) (cs : List Value) : Prop := ∀ j u, cs[j]? = some u → w.cell? ⟨b, o + j, none⟩ = some u
theorem has_of_at {w : World} {b : Nat} {cs : List Value} {e : TypeId} {f : Nat × Nat} (h : At w b (.cells cs.toArray e f)) : Has w b 0 cs := fun j u hu => by rw [h.cell, Nat.zero_add]; simpa using hu
theorem Has.ext {w w' : World} {b o : Nat} {cs : List Value} (h : Has w b o cs) (hb : b < w.heap.size) (he : Ext w w') : Has w' b o cs := fun j u hu => cell_ext (h j u hu) hb he
theorem has_at {w : World} {b o d o' : Nat} {cs : List Value} {u : Value} (h : Has w b o cs) (ho : o' = o + d) (hu : cs[d]? = some u) : w.cell? ⟨b, o', none⟩ = some u := by subst ho; exact h d u hu
theorem has_part {w : World} {b o d n o' j : Nat} {cs xs : List Value} {u : Value} (h : Has w b o cs) (ho : o' = o + d) (hx : (cs.drop d).take n = xs) (hu : xs[j]? = some u) : w.cell? ⟨b, o' + j, none⟩ = some u := by
  subst ho; subst hx
  rw [List.getElem?_take] at hu
  split at hu
  · rw [List.getElem?_drop] at hu
    rw [Nat.add_assoc]; exact h _ _ hu
  · cases hu
theorem eqList_nil {P : Program} {d : Nat} {xs ys : Array Value} : ∀ w, (eqList d xs ys []).run P w = .ok true w := fun w => by simp [eqList]
theorem eqList_cons {P : Program} {d : Nat} {xs ys : Array Value} {t : TypeId} {o : Nat} {q : Bool} {r : List (TypeId × Nat × Bool)} {x y : Value} {b c : Bool} (hx : ∀ w, (part t xs o).run P w = .ok x w) (hy : ∀ w, (part t ys o).run P w = .ok y w) (he : ∀ w, (Op.equalIn d t x y).run P w = .ok b w)
    (hr : ∀ w, (eqList d xs ys r).run P w = .ok c w) : ∀ w, (eqList d xs ys ((t, o, q) :: r)).run P w = .ok (b && c) w := fun w => by
  simp only [eqList, Sem.run_bind, hx, hy, he, Result.andThen_ok]
  cases b <;> simp [hr]
theorem trod_fld {P : Program} {H : Type} {enc : TypeId × Value → H} {W : World} {T : TypeId} {fuel : Nat} {cs : List Value} {x : DataW H × List MemPlace} {l : List (TypeId × Nat × Bool)} (hu : P.underlying T = some (.struct (P.fieldsOf T))) (hfl : (P.fieldsOf T).toList.map (fun f => (f.type, f.offset, f.name == "_")) = l)
    (h : DataW.trod enc P W 0 (fun _ => true) true fuel T cs = some x) {i : Nat} {t : TypeId} {o : Nat} {q : Bool} (hi : l[i]? = some (t, o, q)) : ∃ m y, DataW.trod enc P W 0 (fun _ => true) true m t ((cs.drop o).take (P.cellsOf t)) = some y := by
  obtain ⟨xs, n, _, _, _, hlen, hf⟩ := DataW.trod_struct hu h
  subst hfl
  rw [List.getElem?_map] at hi
  cases hg : (P.fieldsOf T).toList[i]? with
  | none => rw [hg] at hi; cases hi
  | some f =>
    rw [hg] at hi
    simp only [Option.map_some, Option.some.injEq, Prod.mk.injEq] at hi
    obtain ⟨rfl, rfl, _⟩ := hi
    have hlt : i < (P.fieldsOf T).size := by have := (List.getElem?_eq_some_iff.1 hg).1; simpa using this
    refine ⟨n, xs[i]'(by omega), ?_⟩
    rw [hf i f (by simpa using hg)]
    exact List.getElem?_eq_getElem _
theorem leaf_int {P : Program} {H : Type} {enc : TypeId × Value → H} {W : World} {t : TypeId} {fuel : Nat} {cs : List Value} {x : DataW H × List MemPlace} (ht : P.underlying t = some (.int .i64)) (h : DataW.trod enc P W 0 (fun _ => true) true fuel t cs = some x) : ∃ a : Int, cs = [.int .i64 a] ∧ I64 a := by
  obtain ⟨z, h1, _, h2⟩ := DataW.trod_int ht h
  refine ⟨z, h1, ?_⟩
  unfold I64
  simpa [Lit.wf, IntKind.min, IntKind.max, IntKind.signed, IntKind.bits] using h2
theorem leaf_bool {P : Program} {H : Type} {enc : TypeId × Value → H} {W : World} {t : TypeId} {fuel : Nat} {cs : List Value} {x : DataW H × List MemPlace} (ht : P.underlying t = some .bool) (h : DataW.trod enc P W 0 (fun _ => true) true fuel t cs = some x) : ∃ a : Bool, cs = [.bool a] ∧ True := by
  obtain ⟨z, h1, _⟩ := DataW.trod_bool ht h
  exact ⟨z, h1, trivial⟩
end Go.Proofs.YtoeblipchoglaaaGreatDoor
namespace Go.Proofs.YtoeblipchoglaaaGreatDoor
open Sh Go.RowKit Go.WideShapes Go.ChangeShapes
set_option maxRecDepth 100000
structure SSig where
  e : Int
  s : Int
deriving DecidableEq
instance : Inhabited SSig := ⟨⟨0, 0⟩⟩
def SSig.cells (s : SSig) : List Value := [.int .i64 s.e] ++ [.int .i64 s.s]
def SSig.Ok (s : SSig) : Prop := I64 s.e ∧ I64 s.s
namespace Ty
theorem SSig_und : Tryz.prog.underlying 95 = some (.struct (Tryz.prog.fieldsOf 95)) := by kernel_rfl
theorem SSig_agg (w : World) : (isAgg 95).run Tryz.prog w = .ok true w := by kernel_rfl
theorem SSig_size (w : World) : (sizeOf 95).run Tryz.prog w = .ok 2 w := by kernel_rfl
theorem SSig_f0_run (w : World) (b o : Nat) : (Instr.fieldAt 95 (.pointer (some ⟨b, o, none⟩)) 0).run Tryz.prog w = .ok (.pointer (some ⟨b, o, none⟩)) w := by kernel_rfl
theorem SSig_f0 {b o : Nat} {w : World} {K : Value → World → Prop} {X : List PanicEntry → World → Prop} : DoV Tryz.prog (Instr.fieldAt 95 (.pointer (some ⟨b, o, none⟩)) 0) w K X = K (.pointer (some ⟨b, o, none⟩)) w := DoV_ok (SSig_f0_run w b o)
theorem SSig_f1_run (w : World) (b o : Nat) : (Instr.fieldAt 95 (.pointer (some ⟨b, o, none⟩)) 1).run Tryz.prog w = .ok (.pointer (some ⟨b, o + 1, none⟩)) w := by kernel_rfl
theorem SSig_f1 {b o : Nat} {w : World} {K : Value → World → Prop} {X : List PanicEntry → World → Prop} : DoV Tryz.prog (Instr.fieldAt 95 (.pointer (some ⟨b, o, none⟩)) 1) w K X = K (.pointer (some ⟨b, o + 1, none⟩)) w := DoV_ok (SSig_f1_run w b o)
theorem SSig_flds : (Tryz.prog.fieldsOf 95).toList.map (fun f => (f.type, f.offset, f.name == "_")) = [(3, 0, false), (3, 1, false)] := by kernel_rfl
theorem SSig_stood : Tryz.prog.stoodInHeld 95 = false := by kernel_rfl
theorem SSig_guard (w : World) (op : BinOp) (ox oy : Operand) (x y : Array Value) : (eqGuard op 95 ox oy (.agg x) (.agg y)).run Tryz.prog w = .ok () w := run_eqGuard_agg w op 95 ox oy x y (by kernel_rfl)
end Ty
theorem SSig.eq_run (d : Nat) (w : World) (a b : SSig) : (Op.equalIn (d + 3) 95 (.agg a.cells.toArray) (.agg b.cells.toArray)).run Tryz.prog w = .ok (decide (a = b)) w := by
  rw [show d + 3 = (d + 2) + 1 from rfl, run_equalIn_agg w (d + 2) _ _ _ Ty.SSig_und Ty.SSig_stood]
  rw [eqFlds Ty.SSig_flds (by decide)]
  have p0 : ∀ (c : SSig) (w : World), (part 3 c.cells.toArray 0).run Tryz.prog w = .ok (.int .i64 c.e) w := fun c w => part_one Ty.int_agg rfl
  have q0 : ∀ (w : World), (Op.equalIn (d + 2) 3 (.int .i64 a.e) (.int .i64 b.e)).run Tryz.prog w = .ok (decide (a.e = b.e)) w := fun w => eq_int Ty.int
  have p1 : ∀ (c : SSig) (w : World), (part 3 c.cells.toArray 1).run Tryz.prog w = .ok (.int .i64 c.s) w := fun c w => part_one Ty.int_agg rfl
  have q1 : ∀ (w : World), (Op.equalIn (d + 2) 3 (.int .i64 a.s) (.int .i64 b.s)).run Tryz.prog w = .ok (decide (a.s = b.s)) w := fun w => eq_int Ty.int
  have e : (a = b) ↔ (a.e = b.e ∧ a.s = b.s) := by
    constructor
    · rintro rfl; simp
    · rintro ⟨h0, h1⟩
      cases a; cases b; simp only at h0 h1; subst h0 h1; rfl
  rw [eqList_cons (p0 a) (p0 b) q0 (eqList_cons (p1 a) (p1 b) q1 eqList_nil) w]
  congr 1
  rw [Bool.eq_iff_iff]
  simp only [Bool.and_eq_true, decide_eq_true_eq, and_true, e]
theorem SSig.eql {w : World} {K : Value → World → Prop} {X : List PanicEntry → World → Prop} {ox oy : Operand} {a b : SSig} : DoV Tryz.prog (binS .eql 95 ox oy (.agg a.cells.toArray) (.agg b.cells.toArray)) w K X = K (.bool (decide (a = b))) w := by
  refine DoV_ok ?_
  have e := SSig.eq_run 9997 w a b
  simp only [binS, Sem.run_bind, Ty.SSig_guard, Result.andThen_ok, run_eql_struct]
  rw [e]; rfl
theorem SSig.g_e {s : SSig} {b o : Nat} {w : World} {K : Value → World → Prop} {X0 X1 : List PanicEntry → World → Prop} (h : Has w b o s.cells) : DoV Tryz.prog (Instr.fieldAt 95 (.pointer (some ⟨b, o, none⟩)) 0) w (fun a1 w1 => DoV Tryz.prog (Instr.loadAt 3 a1) w1 K X0) X1 = K (.int .i64 s.e) w := by
  rw [Ty.SSig_f0, load_cell Ty.int_agg (has_at h (d := 0) (by omega) rfl)]
theorem SSig.g_s {s : SSig} {b o : Nat} {w : World} {K : Value → World → Prop} {X0 X1 : List PanicEntry → World → Prop} (h : Has w b o s.cells) : DoV Tryz.prog (Instr.fieldAt 95 (.pointer (some ⟨b, o, none⟩)) 1) w (fun a1 w1 => DoV Tryz.prog (Instr.loadAt 3 a1) w1 K X0) X1 = K (.int .i64 s.s) w := by
  rw [Ty.SSig_f1, load_cell Ty.int_agg (has_at h (d := 1) (by omega) rfl)]
theorem SSig.g_all {s : SSig} {b o : Nat} {w : World} {K : Value → World → Prop} {X : List PanicEntry → World → Prop} (h : Has w b o s.cells) : DoV Tryz.prog (Instr.loadAt 95 (.pointer (some ⟨b, o, none⟩))) w K X = K (.agg s.cells.toArray) w := load_arr (n := 2) (xs := s.cells) Ty.SSig_agg Ty.SSig_size rfl h
end Go.Proofs.YtoeblipchoglaaaGreatDoor
namespace Go.Proofs.YtoeblipchoglaaaGreatDoor
open Sh Go.RowKit Go.WideShapes Go.ChangeShapes
set_option maxRecDepth 100000
structure SSpan where
  lo : Int
  hi : Int
deriving DecidableEq
instance : Inhabited SSpan := ⟨⟨0, 0⟩⟩
def SSpan.cells (s : SSpan) : List Value := [.int .i64 s.lo] ++ [.int .i64 s.hi]
def SSpan.Ok (s : SSpan) : Prop := I64 s.lo ∧ I64 s.hi
def SSpan.zero : SSpan := ⟨0, 0⟩
namespace Ty
theorem SSpan_und : Tryz.prog.underlying 36 = some (.struct (Tryz.prog.fieldsOf 36)) := by kernel_rfl
theorem SSpan_agg (w : World) : (isAgg 36).run Tryz.prog w = .ok true w := by kernel_rfl
theorem SSpan_size (w : World) : (sizeOf 36).run Tryz.prog w = .ok 2 w := by kernel_rfl
theorem SSpan_cells : Tryz.prog.cellsOf 36 = 2 := by kernel_rfl
theorem SSpan_f0_run (w : World) (b o : Nat) : (Instr.fieldAt 36 (.pointer (some ⟨b, o, none⟩)) 0).run Tryz.prog w = .ok (.pointer (some ⟨b, o, none⟩)) w := by kernel_rfl
theorem SSpan_f0 {b o : Nat} {w : World} {K : Value → World → Prop} {X : List PanicEntry → World → Prop} : DoV Tryz.prog (Instr.fieldAt 36 (.pointer (some ⟨b, o, none⟩)) 0) w K X = K (.pointer (some ⟨b, o, none⟩)) w := DoV_ok (SSpan_f0_run w b o)
theorem SSpan_f1_run (w : World) (b o : Nat) : (Instr.fieldAt 36 (.pointer (some ⟨b, o, none⟩)) 1).run Tryz.prog w = .ok (.pointer (some ⟨b, o + 1, none⟩)) w := by kernel_rfl
theorem SSpan_f1 {b o : Nat} {w : World} {K : Value → World → Prop} {X : List PanicEntry → World → Prop} : DoV Tryz.prog (Instr.fieldAt 36 (.pointer (some ⟨b, o, none⟩)) 1) w K X = K (.pointer (some ⟨b, o + 1, none⟩)) w := DoV_ok (SSpan_f1_run w b o)
theorem SSpan_flds : (Tryz.prog.fieldsOf 36).toList.map (fun f => (f.type, f.offset, f.name == "_")) = [(3, 0, false), (3, 1, false)] := by kernel_rfl
theorem SSpan_stood : Tryz.prog.stoodInHeld 36 = false := by kernel_rfl
theorem SSpan_guard (w : World) (op : BinOp) (ox oy : Operand) (x y : Array Value) : (eqGuard op 36 ox oy (.agg x) (.agg y)).run Tryz.prog w = .ok () w := run_eqGuard_agg w op 36 ox oy x y (by kernel_rfl)
end Ty
theorem SSpan.eq_run (d : Nat) (w : World) (a b : SSpan) : (Op.equalIn (d + 3) 36 (.agg a.cells.toArray) (.agg b.cells.toArray)).run Tryz.prog w = .ok (decide (a = b)) w := by
  rw [show d + 3 = (d + 2) + 1 from rfl, run_equalIn_agg w (d + 2) _ _ _ Ty.SSpan_und Ty.SSpan_stood]
  rw [eqFlds Ty.SSpan_flds (by decide)]
  have p0 : ∀ (c : SSpan) (w : World), (part 3 c.cells.toArray 0).run Tryz.prog w = .ok (.int .i64 c.lo) w := fun c w => part_one Ty.int_agg rfl
  have q0 : ∀ (w : World), (Op.equalIn (d + 2) 3 (.int .i64 a.lo) (.int .i64 b.lo)).run Tryz.prog w = .ok (decide (a.lo = b.lo)) w := fun w => eq_int Ty.int
  have p1 : ∀ (c : SSpan) (w : World), (part 3 c.cells.toArray 1).run Tryz.prog w = .ok (.int .i64 c.hi) w := fun c w => part_one Ty.int_agg rfl
  have q1 : ∀ (w : World), (Op.equalIn (d + 2) 3 (.int .i64 a.hi) (.int .i64 b.hi)).run Tryz.prog w = .ok (decide (a.hi = b.hi)) w := fun w => eq_int Ty.int
  have e : (a = b) ↔ (a.lo = b.lo ∧ a.hi = b.hi) := by
    constructor
    · rintro rfl; simp
    · rintro ⟨h0, h1⟩
      cases a; cases b; simp only at h0 h1; subst h0 h1; rfl
  rw [eqList_cons (p0 a) (p0 b) q0 (eqList_cons (p1 a) (p1 b) q1 eqList_nil) w]
  congr 1
  rw [Bool.eq_iff_iff]
  simp only [Bool.and_eq_true, decide_eq_true_eq, and_true, e]
theorem SSpan.eql {w : World} {K : Value → World → Prop} {X : List PanicEntry → World → Prop} {ox oy : Operand} {a b : SSpan} : DoV Tryz.prog (binS .eql 36 ox oy (.agg a.cells.toArray) (.agg b.cells.toArray)) w K X = K (.bool (decide (a = b))) w := by
  refine DoV_ok ?_
  have e := SSpan.eq_run 9997 w a b
  simp only [binS, Sem.run_bind, Ty.SSpan_guard, Result.andThen_ok, run_eql_struct]
  rw [e]; rfl
theorem SSpan.of_trod {H : Type} {enc : TypeId × Value → H} {W : World} {fuel : Nat} {cs : List Value} {x : DataW H × List MemPlace} (h : DataW.trod enc Tryz.prog W 0 (fun _ => true) true fuel 36 cs = some x) : ∃ a : SSpan, cs = a.cells ∧ a.Ok := by
  have hcs : cs.length = 2 := by
    obtain ⟨_, _, _, _, hl, _⟩ := DataW.trod_struct Ty.SSpan_und h
    rw [hl]; exact Ty.SSpan_cells
  obtain ⟨m0, y0, g0⟩ := trod_fld Ty.SSpan_und Ty.SSpan_flds h (i := 0) rfl
  rw [Ty.int_cells] at g0
  obtain ⟨m1, y1, g1⟩ := trod_fld Ty.SSpan_und Ty.SSpan_flds h (i := 1) rfl
  rw [Ty.int_cells] at g1
  match cs, hcs with
  | [u0, u1], _ =>
    have g0 : DataW.trod enc Tryz.prog W 0 (fun _ => true) true m0 3 [u0] = some y0 := g0
    obtain ⟨a0, c0, k0⟩ := leaf_int Ty.int g0
    have g1 : DataW.trod enc Tryz.prog W 0 (fun _ => true) true m1 3 [u1] = some y1 := g1
    obtain ⟨a1, c1, k1⟩ := leaf_int Ty.int g1
    refine ⟨⟨a0, a1⟩, ?_, k0, k1⟩
    show [u0] ++ [u1] = [.int .i64 a0] ++ [.int .i64 a1]
    rw [c0, c1]
theorem SSpan.g_lo {s : SSpan} {b o : Nat} {w : World} {K : Value → World → Prop} {X0 X1 : List PanicEntry → World → Prop} (h : Has w b o s.cells) : DoV Tryz.prog (Instr.fieldAt 36 (.pointer (some ⟨b, o, none⟩)) 0) w (fun a1 w1 => DoV Tryz.prog (Instr.loadAt 3 a1) w1 K X0) X1 = K (.int .i64 s.lo) w := by
  rw [Ty.SSpan_f0, load_cell Ty.int_agg (has_at h (d := 0) (by omega) rfl)]
theorem SSpan.g_hi {s : SSpan} {b o : Nat} {w : World} {K : Value → World → Prop} {X0 X1 : List PanicEntry → World → Prop} (h : Has w b o s.cells) : DoV Tryz.prog (Instr.fieldAt 36 (.pointer (some ⟨b, o, none⟩)) 1) w (fun a1 w1 => DoV Tryz.prog (Instr.loadAt 3 a1) w1 K X0) X1 = K (.int .i64 s.hi) w := by
  rw [Ty.SSpan_f1, load_cell Ty.int_agg (has_at h (d := 1) (by omega) rfl)]
structure SEntry where
  seq : Int
  time : Int
  kind : Int
  sensor : Int
  ref : Int
  a : Int
  n : Int
  value : SSpan
  temp : Int
  age : Int
  since : Int
deriving DecidableEq
instance : Inhabited SEntry := ⟨⟨0, 0, 0, 0, 0, 0, 0, ⟨0, 0⟩, 0, 0, 0⟩⟩
def SEntry.cells (s : SEntry) : List Value := [.int .i64 s.seq] ++ [.int .i64 s.time] ++ [.int .i64 s.kind] ++ [.int .i64 s.sensor] ++ [.int .i64 s.ref] ++ [.int .i64 s.a] ++ [.int .i64 s.n] ++ s.value.cells ++ [.int .i64 s.temp] ++ [.int .i64 s.age] ++ [.int .i64 s.since]
theorem SEntry.cells_eq (s : SEntry) : s.cells = [.int .i64 s.seq, .int .i64 s.time, .int .i64 s.kind, .int .i64 s.sensor, .int .i64 s.ref, .int .i64 s.a, .int .i64 s.n, .int .i64 s.value.lo, .int .i64 s.value.hi, .int .i64 s.temp, .int .i64 s.age, .int .i64 s.since] := rfl
theorem SEntry.len (s : SEntry) : s.cells.length = 12 := rfl
theorem SEntry.one (s : SEntry) : ∀ u ∈ s.cells, u.oneCell' = true := by
  intro u hu
  rw [SEntry.cells_eq] at hu
  simp only [List.mem_cons, List.not_mem_nil, or_false] at hu
  rcases hu with rfl | rfl | rfl | rfl | rfl | rfl | rfl | rfl | rfl | rfl | rfl | rfl <;> rfl
def SEntry.Ok (s : SEntry) : Prop := I64 s.seq ∧ I64 s.time ∧ I64 s.kind ∧ I64 s.sensor ∧ I64 s.ref ∧ I64 s.a ∧ I64 s.n ∧ s.value.Ok ∧ I64 s.temp ∧ I64 s.age ∧ I64 s.since
def SEntry.zero : SEntry := ⟨0, 0, 0, 0, 0, 0, 0, ⟨0, 0⟩, 0, 0, 0⟩
namespace Ty
theorem SEntry_und : Tryz.prog.underlying 38 = some (.struct (Tryz.prog.fieldsOf 38)) := by kernel_rfl
theorem SEntry_agg (w : World) : (isAgg 38).run Tryz.prog w = .ok true w := by kernel_rfl
theorem SEntry_size (w : World) : (sizeOf 38).run Tryz.prog w = .ok 12 w := by kernel_rfl
theorem SEntry_zero (w : World) : (zeroValue 38).run Tryz.prog w = .ok (.agg SEntry.zero.cells.toArray) w := by kernel_rfl
theorem SEntry_cells : Tryz.prog.cellsOf 38 = 12 := by kernel_rfl
theorem SEntry_info : (Tryz.prog.info? 38).map (fun i => (i.zero, i.size, i.bytes)) = some (some (.agg SEntry.zero.cells.toArray), 12, 96) := by kernel_rfl
theorem SEntry_f0_run (w : World) (b o : Nat) : (Instr.fieldAt 38 (.pointer (some ⟨b, o, none⟩)) 0).run Tryz.prog w = .ok (.pointer (some ⟨b, o, none⟩)) w := by kernel_rfl
theorem SEntry_f0 {b o : Nat} {w : World} {K : Value → World → Prop} {X : List PanicEntry → World → Prop} : DoV Tryz.prog (Instr.fieldAt 38 (.pointer (some ⟨b, o, none⟩)) 0) w K X = K (.pointer (some ⟨b, o, none⟩)) w := DoV_ok (SEntry_f0_run w b o)
theorem SEntry_f1_run (w : World) (b o : Nat) : (Instr.fieldAt 38 (.pointer (some ⟨b, o, none⟩)) 1).run Tryz.prog w = .ok (.pointer (some ⟨b, o + 1, none⟩)) w := by kernel_rfl
theorem SEntry_f1 {b o : Nat} {w : World} {K : Value → World → Prop} {X : List PanicEntry → World → Prop} : DoV Tryz.prog (Instr.fieldAt 38 (.pointer (some ⟨b, o, none⟩)) 1) w K X = K (.pointer (some ⟨b, o + 1, none⟩)) w := DoV_ok (SEntry_f1_run w b o)
theorem SEntry_f2_run (w : World) (b o : Nat) : (Instr.fieldAt 38 (.pointer (some ⟨b, o, none⟩)) 2).run Tryz.prog w = .ok (.pointer (some ⟨b, o + 2, none⟩)) w := by kernel_rfl
theorem SEntry_f2 {b o : Nat} {w : World} {K : Value → World → Prop} {X : List PanicEntry → World → Prop} : DoV Tryz.prog (Instr.fieldAt 38 (.pointer (some ⟨b, o, none⟩)) 2) w K X = K (.pointer (some ⟨b, o + 2, none⟩)) w := DoV_ok (SEntry_f2_run w b o)
theorem SEntry_f3_run (w : World) (b o : Nat) : (Instr.fieldAt 38 (.pointer (some ⟨b, o, none⟩)) 3).run Tryz.prog w = .ok (.pointer (some ⟨b, o + 3, none⟩)) w := by kernel_rfl
theorem SEntry_f3 {b o : Nat} {w : World} {K : Value → World → Prop} {X : List PanicEntry → World → Prop} : DoV Tryz.prog (Instr.fieldAt 38 (.pointer (some ⟨b, o, none⟩)) 3) w K X = K (.pointer (some ⟨b, o + 3, none⟩)) w := DoV_ok (SEntry_f3_run w b o)
theorem SEntry_f4_run (w : World) (b o : Nat) : (Instr.fieldAt 38 (.pointer (some ⟨b, o, none⟩)) 4).run Tryz.prog w = .ok (.pointer (some ⟨b, o + 4, none⟩)) w := by kernel_rfl
theorem SEntry_f4 {b o : Nat} {w : World} {K : Value → World → Prop} {X : List PanicEntry → World → Prop} : DoV Tryz.prog (Instr.fieldAt 38 (.pointer (some ⟨b, o, none⟩)) 4) w K X = K (.pointer (some ⟨b, o + 4, none⟩)) w := DoV_ok (SEntry_f4_run w b o)
theorem SEntry_f5_run (w : World) (b o : Nat) : (Instr.fieldAt 38 (.pointer (some ⟨b, o, none⟩)) 5).run Tryz.prog w = .ok (.pointer (some ⟨b, o + 5, none⟩)) w := by kernel_rfl
theorem SEntry_f5 {b o : Nat} {w : World} {K : Value → World → Prop} {X : List PanicEntry → World → Prop} : DoV Tryz.prog (Instr.fieldAt 38 (.pointer (some ⟨b, o, none⟩)) 5) w K X = K (.pointer (some ⟨b, o + 5, none⟩)) w := DoV_ok (SEntry_f5_run w b o)
theorem SEntry_f6_run (w : World) (b o : Nat) : (Instr.fieldAt 38 (.pointer (some ⟨b, o, none⟩)) 6).run Tryz.prog w = .ok (.pointer (some ⟨b, o + 6, none⟩)) w := by kernel_rfl
theorem SEntry_f6 {b o : Nat} {w : World} {K : Value → World → Prop} {X : List PanicEntry → World → Prop} : DoV Tryz.prog (Instr.fieldAt 38 (.pointer (some ⟨b, o, none⟩)) 6) w K X = K (.pointer (some ⟨b, o + 6, none⟩)) w := DoV_ok (SEntry_f6_run w b o)
theorem SEntry_f7_run (w : World) (b o : Nat) : (Instr.fieldAt 38 (.pointer (some ⟨b, o, none⟩)) 7).run Tryz.prog w = .ok (.pointer (some ⟨b, o + 7, none⟩)) w := by kernel_rfl
theorem SEntry_f7 {b o : Nat} {w : World} {K : Value → World → Prop} {X : List PanicEntry → World → Prop} : DoV Tryz.prog (Instr.fieldAt 38 (.pointer (some ⟨b, o, none⟩)) 7) w K X = K (.pointer (some ⟨b, o + 7, none⟩)) w := DoV_ok (SEntry_f7_run w b o)
theorem SEntry_f8_run (w : World) (b o : Nat) : (Instr.fieldAt 38 (.pointer (some ⟨b, o, none⟩)) 8).run Tryz.prog w = .ok (.pointer (some ⟨b, o + 9, none⟩)) w := by kernel_rfl
theorem SEntry_f8 {b o : Nat} {w : World} {K : Value → World → Prop} {X : List PanicEntry → World → Prop} : DoV Tryz.prog (Instr.fieldAt 38 (.pointer (some ⟨b, o, none⟩)) 8) w K X = K (.pointer (some ⟨b, o + 9, none⟩)) w := DoV_ok (SEntry_f8_run w b o)
theorem SEntry_f9_run (w : World) (b o : Nat) : (Instr.fieldAt 38 (.pointer (some ⟨b, o, none⟩)) 9).run Tryz.prog w = .ok (.pointer (some ⟨b, o + 10, none⟩)) w := by kernel_rfl
theorem SEntry_f9 {b o : Nat} {w : World} {K : Value → World → Prop} {X : List PanicEntry → World → Prop} : DoV Tryz.prog (Instr.fieldAt 38 (.pointer (some ⟨b, o, none⟩)) 9) w K X = K (.pointer (some ⟨b, o + 10, none⟩)) w := DoV_ok (SEntry_f9_run w b o)
theorem SEntry_f10_run (w : World) (b o : Nat) : (Instr.fieldAt 38 (.pointer (some ⟨b, o, none⟩)) 10).run Tryz.prog w = .ok (.pointer (some ⟨b, o + 11, none⟩)) w := by kernel_rfl
theorem SEntry_f10 {b o : Nat} {w : World} {K : Value → World → Prop} {X : List PanicEntry → World → Prop} : DoV Tryz.prog (Instr.fieldAt 38 (.pointer (some ⟨b, o, none⟩)) 10) w K X = K (.pointer (some ⟨b, o + 11, none⟩)) w := DoV_ok (SEntry_f10_run w b o)
theorem SEntry_flds : (Tryz.prog.fieldsOf 38).toList.map (fun f => (f.type, f.offset, f.name == "_")) = [(3, 0, false), (3, 1, false), (3, 2, false), (3, 3, false), (3, 4, false), (3, 5, false), (3, 6, false), (36, 7, false), (3, 9, false), (3, 10, false), (3, 11, false)] := by kernel_rfl
theorem SEntry_stood : Tryz.prog.stoodInHeld 38 = false := by kernel_rfl
theorem SEntry_guard (w : World) (op : BinOp) (ox oy : Operand) (x y : Array Value) : (eqGuard op 38 ox oy (.agg x) (.agg y)).run Tryz.prog w = .ok () w := run_eqGuard_agg w op 38 ox oy x y (by kernel_rfl)
end Ty
theorem SEntry.eq_run (d : Nat) (w : World) (a b : SEntry) : (Op.equalIn (d + 4) 38 (.agg a.cells.toArray) (.agg b.cells.toArray)).run Tryz.prog w = .ok (decide (a = b)) w := by
  rw [show d + 4 = (d + 3) + 1 from rfl, run_equalIn_agg w (d + 3) _ _ _ Ty.SEntry_und Ty.SEntry_stood]
  rw [eqFlds Ty.SEntry_flds (by decide)]
  have p0 : ∀ (c : SEntry) (w : World), (part 3 c.cells.toArray 0).run Tryz.prog w = .ok (.int .i64 c.seq) w := fun c w => part_one Ty.int_agg rfl
  have q0 : ∀ (w : World), (Op.equalIn (d + 3) 3 (.int .i64 a.seq) (.int .i64 b.seq)).run Tryz.prog w = .ok (decide (a.seq = b.seq)) w := fun w => eq_int Ty.int
  have p1 : ∀ (c : SEntry) (w : World), (part 3 c.cells.toArray 1).run Tryz.prog w = .ok (.int .i64 c.time) w := fun c w => part_one Ty.int_agg rfl
  have q1 : ∀ (w : World), (Op.equalIn (d + 3) 3 (.int .i64 a.time) (.int .i64 b.time)).run Tryz.prog w = .ok (decide (a.time = b.time)) w := fun w => eq_int Ty.int
  have p2 : ∀ (c : SEntry) (w : World), (part 3 c.cells.toArray 2).run Tryz.prog w = .ok (.int .i64 c.kind) w := fun c w => part_one Ty.int_agg rfl
  have q2 : ∀ (w : World), (Op.equalIn (d + 3) 3 (.int .i64 a.kind) (.int .i64 b.kind)).run Tryz.prog w = .ok (decide (a.kind = b.kind)) w := fun w => eq_int Ty.int
  have p3 : ∀ (c : SEntry) (w : World), (part 3 c.cells.toArray 3).run Tryz.prog w = .ok (.int .i64 c.sensor) w := fun c w => part_one Ty.int_agg rfl
  have q3 : ∀ (w : World), (Op.equalIn (d + 3) 3 (.int .i64 a.sensor) (.int .i64 b.sensor)).run Tryz.prog w = .ok (decide (a.sensor = b.sensor)) w := fun w => eq_int Ty.int
  have p4 : ∀ (c : SEntry) (w : World), (part 3 c.cells.toArray 4).run Tryz.prog w = .ok (.int .i64 c.ref) w := fun c w => part_one Ty.int_agg rfl
  have q4 : ∀ (w : World), (Op.equalIn (d + 3) 3 (.int .i64 a.ref) (.int .i64 b.ref)).run Tryz.prog w = .ok (decide (a.ref = b.ref)) w := fun w => eq_int Ty.int
  have p5 : ∀ (c : SEntry) (w : World), (part 3 c.cells.toArray 5).run Tryz.prog w = .ok (.int .i64 c.a) w := fun c w => part_one Ty.int_agg rfl
  have q5 : ∀ (w : World), (Op.equalIn (d + 3) 3 (.int .i64 a.a) (.int .i64 b.a)).run Tryz.prog w = .ok (decide (a.a = b.a)) w := fun w => eq_int Ty.int
  have p6 : ∀ (c : SEntry) (w : World), (part 3 c.cells.toArray 6).run Tryz.prog w = .ok (.int .i64 c.n) w := fun c w => part_one Ty.int_agg rfl
  have q6 : ∀ (w : World), (Op.equalIn (d + 3) 3 (.int .i64 a.n) (.int .i64 b.n)).run Tryz.prog w = .ok (decide (a.n = b.n)) w := fun w => eq_int Ty.int
  have p7 : ∀ (c : SEntry) (w : World), (part 36 c.cells.toArray 7).run Tryz.prog w = .ok (.agg c.value.cells.toArray) w := fun c w => part_agg Ty.SSpan_agg Ty.SSpan_size rfl
  have q7 : ∀ (w : World), (Op.equalIn (d + 3) 36 (.agg a.value.cells.toArray) (.agg b.value.cells.toArray)).run Tryz.prog w = .ok (decide (a.value = b.value)) w := fun w => SSpan.eq_run (d + 0) w a.value b.value
  have p8 : ∀ (c : SEntry) (w : World), (part 3 c.cells.toArray 9).run Tryz.prog w = .ok (.int .i64 c.temp) w := fun c w => part_one Ty.int_agg rfl
  have q8 : ∀ (w : World), (Op.equalIn (d + 3) 3 (.int .i64 a.temp) (.int .i64 b.temp)).run Tryz.prog w = .ok (decide (a.temp = b.temp)) w := fun w => eq_int Ty.int
  have p9 : ∀ (c : SEntry) (w : World), (part 3 c.cells.toArray 10).run Tryz.prog w = .ok (.int .i64 c.age) w := fun c w => part_one Ty.int_agg rfl
  have q9 : ∀ (w : World), (Op.equalIn (d + 3) 3 (.int .i64 a.age) (.int .i64 b.age)).run Tryz.prog w = .ok (decide (a.age = b.age)) w := fun w => eq_int Ty.int
  have p10 : ∀ (c : SEntry) (w : World), (part 3 c.cells.toArray 11).run Tryz.prog w = .ok (.int .i64 c.since) w := fun c w => part_one Ty.int_agg rfl
  have q10 : ∀ (w : World), (Op.equalIn (d + 3) 3 (.int .i64 a.since) (.int .i64 b.since)).run Tryz.prog w = .ok (decide (a.since = b.since)) w := fun w => eq_int Ty.int
  have e : (a = b) ↔ (a.seq = b.seq ∧ a.time = b.time ∧ a.kind = b.kind ∧ a.sensor = b.sensor ∧ a.ref = b.ref ∧ a.a = b.a ∧ a.n = b.n ∧ a.value = b.value ∧ a.temp = b.temp ∧ a.age = b.age ∧ a.since = b.since) := by
    constructor
    · rintro rfl; simp
    · rintro ⟨h0, h1, h2, h3, h4, h5, h6, h7, h8, h9, h10⟩
      cases a; cases b; simp only at h0 h1 h2 h3 h4 h5 h6 h7 h8 h9 h10; subst h0 h1 h2 h3 h4 h5 h6 h7 h8 h9 h10; rfl
  rw [eqList_cons (p0 a) (p0 b) q0 (eqList_cons (p1 a) (p1 b) q1 (eqList_cons (p2 a) (p2 b) q2 (eqList_cons (p3 a) (p3 b) q3 (eqList_cons (p4 a) (p4 b) q4 (eqList_cons (p5 a) (p5 b) q5 (eqList_cons (p6 a) (p6 b) q6 (eqList_cons (p7 a) (p7 b) q7 (eqList_cons (p8 a) (p8 b) q8 (eqList_cons (p9 a) (p9 b) q9 (eqList_cons (p10 a) (p10 b) q10 eqList_nil)))))))))) w]
  congr 1
  rw [Bool.eq_iff_iff]
  simp only [Bool.and_eq_true, decide_eq_true_eq, and_true, e]
theorem SEntry.eql {w : World} {K : Value → World → Prop} {X : List PanicEntry → World → Prop} {ox oy : Operand} {a b : SEntry} : DoV Tryz.prog (binS .eql 38 ox oy (.agg a.cells.toArray) (.agg b.cells.toArray)) w K X = K (.bool (decide (a = b))) w := by
  refine DoV_ok ?_
  have e := SEntry.eq_run 9996 w a b
  simp only [binS, Sem.run_bind, Ty.SEntry_guard, Result.andThen_ok, run_eql_struct]
  rw [e]; rfl
theorem SEntry.neq {w : World} {K : Value → World → Prop} {X : List PanicEntry → World → Prop} {ox oy : Operand} {a b : SEntry} : DoV Tryz.prog (binS .neq 38 ox oy (.agg a.cells.toArray) (.agg b.cells.toArray)) w K X = K (.bool (!decide (a = b))) w := by
  refine DoV_ok ?_
  have e := SEntry.eq_run 9996 w a b
  simp only [binS, Sem.run_bind, Ty.SEntry_guard, Result.andThen_ok, run_neq_struct]
  rw [e]; rfl
theorem SEntry.of_trod {H : Type} {enc : TypeId × Value → H} {W : World} {fuel : Nat} {cs : List Value} {x : DataW H × List MemPlace} (h : DataW.trod enc Tryz.prog W 0 (fun _ => true) true fuel 38 cs = some x) : ∃ a : SEntry, cs = a.cells ∧ a.Ok := by
  have hcs : cs.length = 12 := by
    obtain ⟨_, _, _, _, hl, _⟩ := DataW.trod_struct Ty.SEntry_und h
    rw [hl]; exact Ty.SEntry_cells
  obtain ⟨m0, y0, g0⟩ := trod_fld Ty.SEntry_und Ty.SEntry_flds h (i := 0) rfl
  rw [Ty.int_cells] at g0
  obtain ⟨m1, y1, g1⟩ := trod_fld Ty.SEntry_und Ty.SEntry_flds h (i := 1) rfl
  rw [Ty.int_cells] at g1
  obtain ⟨m2, y2, g2⟩ := trod_fld Ty.SEntry_und Ty.SEntry_flds h (i := 2) rfl
  rw [Ty.int_cells] at g2
  obtain ⟨m3, y3, g3⟩ := trod_fld Ty.SEntry_und Ty.SEntry_flds h (i := 3) rfl
  rw [Ty.int_cells] at g3
  obtain ⟨m4, y4, g4⟩ := trod_fld Ty.SEntry_und Ty.SEntry_flds h (i := 4) rfl
  rw [Ty.int_cells] at g4
  obtain ⟨m5, y5, g5⟩ := trod_fld Ty.SEntry_und Ty.SEntry_flds h (i := 5) rfl
  rw [Ty.int_cells] at g5
  obtain ⟨m6, y6, g6⟩ := trod_fld Ty.SEntry_und Ty.SEntry_flds h (i := 6) rfl
  rw [Ty.int_cells] at g6
  obtain ⟨m7, y7, g7⟩ := trod_fld Ty.SEntry_und Ty.SEntry_flds h (i := 7) rfl
  rw [Ty.SSpan_cells] at g7
  obtain ⟨m8, y8, g8⟩ := trod_fld Ty.SEntry_und Ty.SEntry_flds h (i := 8) rfl
  rw [Ty.int_cells] at g8
  obtain ⟨m9, y9, g9⟩ := trod_fld Ty.SEntry_und Ty.SEntry_flds h (i := 9) rfl
  rw [Ty.int_cells] at g9
  obtain ⟨m10, y10, g10⟩ := trod_fld Ty.SEntry_und Ty.SEntry_flds h (i := 10) rfl
  rw [Ty.int_cells] at g10
  match cs, hcs with
  | [u0, u1, u2, u3, u4, u5, u6, u7, u8, u9, u10, u11], _ =>
    have g0 : DataW.trod enc Tryz.prog W 0 (fun _ => true) true m0 3 [u0] = some y0 := g0
    obtain ⟨a0, c0, k0⟩ := leaf_int Ty.int g0
    have g1 : DataW.trod enc Tryz.prog W 0 (fun _ => true) true m1 3 [u1] = some y1 := g1
    obtain ⟨a1, c1, k1⟩ := leaf_int Ty.int g1
    have g2 : DataW.trod enc Tryz.prog W 0 (fun _ => true) true m2 3 [u2] = some y2 := g2
    obtain ⟨a2, c2, k2⟩ := leaf_int Ty.int g2
    have g3 : DataW.trod enc Tryz.prog W 0 (fun _ => true) true m3 3 [u3] = some y3 := g3
    obtain ⟨a3, c3, k3⟩ := leaf_int Ty.int g3
    have g4 : DataW.trod enc Tryz.prog W 0 (fun _ => true) true m4 3 [u4] = some y4 := g4
    obtain ⟨a4, c4, k4⟩ := leaf_int Ty.int g4
    have g5 : DataW.trod enc Tryz.prog W 0 (fun _ => true) true m5 3 [u5] = some y5 := g5
    obtain ⟨a5, c5, k5⟩ := leaf_int Ty.int g5
    have g6 : DataW.trod enc Tryz.prog W 0 (fun _ => true) true m6 3 [u6] = some y6 := g6
    obtain ⟨a6, c6, k6⟩ := leaf_int Ty.int g6
    have g7 : DataW.trod enc Tryz.prog W 0 (fun _ => true) true m7 36 [u7, u8] = some y7 := g7
    obtain ⟨a7, c7, k7⟩ := SSpan.of_trod g7
    have g8 : DataW.trod enc Tryz.prog W 0 (fun _ => true) true m8 3 [u9] = some y8 := g8
    obtain ⟨a8, c8, k8⟩ := leaf_int Ty.int g8
    have g9 : DataW.trod enc Tryz.prog W 0 (fun _ => true) true m9 3 [u10] = some y9 := g9
    obtain ⟨a9, c9, k9⟩ := leaf_int Ty.int g9
    have g10 : DataW.trod enc Tryz.prog W 0 (fun _ => true) true m10 3 [u11] = some y10 := g10
    obtain ⟨a10, c10, k10⟩ := leaf_int Ty.int g10
    refine ⟨⟨a0, a1, a2, a3, a4, a5, a6, a7, a8, a9, a10⟩, ?_, k0, k1, k2, k3, k4, k5, k6, k7, k8, k9, k10⟩
    show [u0] ++ [u1] ++ [u2] ++ [u3] ++ [u4] ++ [u5] ++ [u6] ++ [u7, u8] ++ [u9] ++ [u10] ++ [u11] = [.int .i64 a0] ++ [.int .i64 a1] ++ [.int .i64 a2] ++ [.int .i64 a3] ++ [.int .i64 a4] ++ [.int .i64 a5] ++ [.int .i64 a6] ++ a7.cells ++ [.int .i64 a8] ++ [.int .i64 a9] ++ [.int .i64 a10]
    rw [c0, c1, c2, c3, c4, c5, c6, c7, c8, c9, c10]
theorem SEntry.g_seq {s : SEntry} {b o : Nat} {w : World} {K : Value → World → Prop} {X0 X1 : List PanicEntry → World → Prop} (h : Has w b o s.cells) : DoV Tryz.prog (Instr.fieldAt 38 (.pointer (some ⟨b, o, none⟩)) 0) w (fun a1 w1 => DoV Tryz.prog (Instr.loadAt 3 a1) w1 K X0) X1 = K (.int .i64 s.seq) w := by
  rw [Ty.SEntry_f0, load_cell Ty.int_agg (has_at h (d := 0) (by omega) rfl)]
theorem SEntry.g_time {s : SEntry} {b o : Nat} {w : World} {K : Value → World → Prop} {X0 X1 : List PanicEntry → World → Prop} (h : Has w b o s.cells) : DoV Tryz.prog (Instr.fieldAt 38 (.pointer (some ⟨b, o, none⟩)) 1) w (fun a1 w1 => DoV Tryz.prog (Instr.loadAt 3 a1) w1 K X0) X1 = K (.int .i64 s.time) w := by
  rw [Ty.SEntry_f1, load_cell Ty.int_agg (has_at h (d := 1) (by omega) rfl)]
theorem SEntry.g_kind {s : SEntry} {b o : Nat} {w : World} {K : Value → World → Prop} {X0 X1 : List PanicEntry → World → Prop} (h : Has w b o s.cells) : DoV Tryz.prog (Instr.fieldAt 38 (.pointer (some ⟨b, o, none⟩)) 2) w (fun a1 w1 => DoV Tryz.prog (Instr.loadAt 3 a1) w1 K X0) X1 = K (.int .i64 s.kind) w := by
  rw [Ty.SEntry_f2, load_cell Ty.int_agg (has_at h (d := 2) (by omega) rfl)]
theorem SEntry.g_sensor {s : SEntry} {b o : Nat} {w : World} {K : Value → World → Prop} {X0 X1 : List PanicEntry → World → Prop} (h : Has w b o s.cells) : DoV Tryz.prog (Instr.fieldAt 38 (.pointer (some ⟨b, o, none⟩)) 3) w (fun a1 w1 => DoV Tryz.prog (Instr.loadAt 3 a1) w1 K X0) X1 = K (.int .i64 s.sensor) w := by
  rw [Ty.SEntry_f3, load_cell Ty.int_agg (has_at h (d := 3) (by omega) rfl)]
theorem SEntry.g_ref {s : SEntry} {b o : Nat} {w : World} {K : Value → World → Prop} {X0 X1 : List PanicEntry → World → Prop} (h : Has w b o s.cells) : DoV Tryz.prog (Instr.fieldAt 38 (.pointer (some ⟨b, o, none⟩)) 4) w (fun a1 w1 => DoV Tryz.prog (Instr.loadAt 3 a1) w1 K X0) X1 = K (.int .i64 s.ref) w := by
  rw [Ty.SEntry_f4, load_cell Ty.int_agg (has_at h (d := 4) (by omega) rfl)]
theorem SEntry.g_a {s : SEntry} {b o : Nat} {w : World} {K : Value → World → Prop} {X0 X1 : List PanicEntry → World → Prop} (h : Has w b o s.cells) : DoV Tryz.prog (Instr.fieldAt 38 (.pointer (some ⟨b, o, none⟩)) 5) w (fun a1 w1 => DoV Tryz.prog (Instr.loadAt 3 a1) w1 K X0) X1 = K (.int .i64 s.a) w := by
  rw [Ty.SEntry_f5, load_cell Ty.int_agg (has_at h (d := 5) (by omega) rfl)]
theorem SEntry.g_n {s : SEntry} {b o : Nat} {w : World} {K : Value → World → Prop} {X0 X1 : List PanicEntry → World → Prop} (h : Has w b o s.cells) : DoV Tryz.prog (Instr.fieldAt 38 (.pointer (some ⟨b, o, none⟩)) 6) w (fun a1 w1 => DoV Tryz.prog (Instr.loadAt 3 a1) w1 K X0) X1 = K (.int .i64 s.n) w := by
  rw [Ty.SEntry_f6, load_cell Ty.int_agg (has_at h (d := 6) (by omega) rfl)]
theorem SEntry.g_value {s : SEntry} {b o : Nat} {w : World} {K : Value → World → Prop} {X0 X1 : List PanicEntry → World → Prop} (h : Has w b o s.cells) : DoV Tryz.prog (Instr.fieldAt 38 (.pointer (some ⟨b, o, none⟩)) 7) w (fun a1 w1 => DoV Tryz.prog (Instr.loadAt 36 a1) w1 K X0) X1 = K (.agg s.value.cells.toArray) w := by
  rw [Ty.SEntry_f7, load_arr (n := 2) (xs := s.value.cells) Ty.SSpan_agg Ty.SSpan_size rfl (fun j u hu => has_part h (d := 7) (n := 2) (xs := s.value.cells) (by omega) rfl hu)]
theorem SEntry.g_value_lo {s : SEntry} {b o : Nat} {w : World} {K : Value → World → Prop} {X0 X1 X2 : List PanicEntry → World → Prop} (h : Has w b o s.cells) : DoV Tryz.prog (Instr.fieldAt 38 (.pointer (some ⟨b, o, none⟩)) 7) w (fun a1 w1 => DoV Tryz.prog (Instr.fieldAt 36 a1 0) w1 (fun a2 w2 => DoV Tryz.prog (Instr.loadAt 3 a2) w2 K X0) X2) X1 = K (.int .i64 s.value.lo) w := by
  rw [Ty.SEntry_f7, Ty.SSpan_f0, load_cell Ty.int_agg (has_at h (d := 7) (by omega) rfl)]
theorem SEntry.g_value_hi {s : SEntry} {b o : Nat} {w : World} {K : Value → World → Prop} {X0 X1 X2 : List PanicEntry → World → Prop} (h : Has w b o s.cells) : DoV Tryz.prog (Instr.fieldAt 38 (.pointer (some ⟨b, o, none⟩)) 7) w (fun a1 w1 => DoV Tryz.prog (Instr.fieldAt 36 a1 1) w1 (fun a2 w2 => DoV Tryz.prog (Instr.loadAt 3 a2) w2 K X0) X2) X1 = K (.int .i64 s.value.hi) w := by
  rw [Ty.SEntry_f7, Ty.SSpan_f1, load_cell Ty.int_agg (has_at h (d := 8) (by omega) rfl)]
theorem SEntry.g_temp {s : SEntry} {b o : Nat} {w : World} {K : Value → World → Prop} {X0 X1 : List PanicEntry → World → Prop} (h : Has w b o s.cells) : DoV Tryz.prog (Instr.fieldAt 38 (.pointer (some ⟨b, o, none⟩)) 8) w (fun a1 w1 => DoV Tryz.prog (Instr.loadAt 3 a1) w1 K X0) X1 = K (.int .i64 s.temp) w := by
  rw [Ty.SEntry_f8, load_cell Ty.int_agg (has_at h (d := 9) (by omega) rfl)]
theorem SEntry.g_age {s : SEntry} {b o : Nat} {w : World} {K : Value → World → Prop} {X0 X1 : List PanicEntry → World → Prop} (h : Has w b o s.cells) : DoV Tryz.prog (Instr.fieldAt 38 (.pointer (some ⟨b, o, none⟩)) 9) w (fun a1 w1 => DoV Tryz.prog (Instr.loadAt 3 a1) w1 K X0) X1 = K (.int .i64 s.age) w := by
  rw [Ty.SEntry_f9, load_cell Ty.int_agg (has_at h (d := 10) (by omega) rfl)]
theorem SEntry.g_since {s : SEntry} {b o : Nat} {w : World} {K : Value → World → Prop} {X0 X1 : List PanicEntry → World → Prop} (h : Has w b o s.cells) : DoV Tryz.prog (Instr.fieldAt 38 (.pointer (some ⟨b, o, none⟩)) 10) w (fun a1 w1 => DoV Tryz.prog (Instr.loadAt 3 a1) w1 K X0) X1 = K (.int .i64 s.since) w := by
  rw [Ty.SEntry_f10, load_cell Ty.int_agg (has_at h (d := 11) (by omega) rfl)]
theorem SEntry.g_all {s : SEntry} {b o : Nat} {w : World} {K : Value → World → Prop} {X : List PanicEntry → World → Prop} (h : Has w b o s.cells) : DoV Tryz.prog (Instr.loadAt 38 (.pointer (some ⟨b, o, none⟩))) w K X = K (.agg s.cells.toArray) w := load_arr (n := 12) (xs := s.cells) Ty.SEntry_agg Ty.SEntry_size rfl h
theorem SEntry.set {s r : SEntry} {b : Nat} {e : TypeId} {w : World} {K : Value → World → Prop} {X : List PanicEntry → World → Prop} (h : At w b (.cells r.cells.toArray e (0, 0))) (hk : ∀ w1, Mod (· = b) w w1 → At w1 b (.cells s.cells.toArray e (0, 0)) → w1.heap.size = w.heap.size → K undef w1) : DoU Tryz.prog (Instr.storeAt 38 (.pointer (some ⟨b, 0, none⟩)) (.agg s.cells.toArray)) w K X := store_all (n := 12) Ty.SEntry_size h rfl rfl (by intro u hu; exact SEntry.one s u hu) hk
structure SRecord where
  kind : Int
  entry : SEntry
  seq : Int
  chain : BitVec 64
deriving DecidableEq
instance : Inhabited SRecord := ⟨⟨0, ⟨0, 0, 0, 0, 0, 0, 0, ⟨0, 0⟩, 0, 0, 0⟩, 0, 0⟩⟩
def SRecord.cells (s : SRecord) : List Value := [.int .i64 s.kind] ++ s.entry.cells ++ [.int .i64 s.seq] ++ [u64v s.chain]
theorem SRecord.cells_eq (s : SRecord) : s.cells = [.int .i64 s.kind, .int .i64 s.entry.seq, .int .i64 s.entry.time, .int .i64 s.entry.kind, .int .i64 s.entry.sensor, .int .i64 s.entry.ref, .int .i64 s.entry.a, .int .i64 s.entry.n, .int .i64 s.entry.value.lo, .int .i64 s.entry.value.hi, .int .i64 s.entry.temp, .int .i64 s.entry.age, .int .i64 s.entry.since, .int .i64 s.seq, u64v s.chain] := rfl
theorem SRecord.len (s : SRecord) : s.cells.length = 15 := rfl
theorem SRecord.one (s : SRecord) : ∀ u ∈ s.cells, u.oneCell' = true := by
  intro u hu
  rw [SRecord.cells_eq] at hu
  simp only [List.mem_cons, List.not_mem_nil, or_false] at hu
  rcases hu with rfl | rfl | rfl | rfl | rfl | rfl | rfl | rfl | rfl | rfl | rfl | rfl | rfl | rfl | rfl <;> rfl
def SRecord.Ok (s : SRecord) : Prop := I64 s.kind ∧ s.entry.Ok ∧ I64 s.seq ∧ True
def SRecord.zero : SRecord := ⟨0, ⟨0, 0, 0, 0, 0, 0, 0, ⟨0, 0⟩, 0, 0, 0⟩, 0, 0⟩
namespace Ty
theorem SRecord_agg (w : World) : (isAgg 64).run Tryz.prog w = .ok true w := by kernel_rfl
theorem SRecord_size (w : World) : (sizeOf 64).run Tryz.prog w = .ok 15 w := by kernel_rfl
theorem SRecord_zero (w : World) : (zeroValue 64).run Tryz.prog w = .ok (.agg SRecord.zero.cells.toArray) w := by kernel_rfl
theorem SRecord_info : (Tryz.prog.info? 64).map (fun i => (i.zero, i.size, i.bytes)) = some (some (.agg SRecord.zero.cells.toArray), 15, 120) := by kernel_rfl
theorem SRecord_f0_run (w : World) (b o : Nat) : (Instr.fieldAt 64 (.pointer (some ⟨b, o, none⟩)) 0).run Tryz.prog w = .ok (.pointer (some ⟨b, o, none⟩)) w := by kernel_rfl
theorem SRecord_f0 {b o : Nat} {w : World} {K : Value → World → Prop} {X : List PanicEntry → World → Prop} : DoV Tryz.prog (Instr.fieldAt 64 (.pointer (some ⟨b, o, none⟩)) 0) w K X = K (.pointer (some ⟨b, o, none⟩)) w := DoV_ok (SRecord_f0_run w b o)
theorem SRecord_f1_run (w : World) (b o : Nat) : (Instr.fieldAt 64 (.pointer (some ⟨b, o, none⟩)) 1).run Tryz.prog w = .ok (.pointer (some ⟨b, o + 1, none⟩)) w := by kernel_rfl
theorem SRecord_f1 {b o : Nat} {w : World} {K : Value → World → Prop} {X : List PanicEntry → World → Prop} : DoV Tryz.prog (Instr.fieldAt 64 (.pointer (some ⟨b, o, none⟩)) 1) w K X = K (.pointer (some ⟨b, o + 1, none⟩)) w := DoV_ok (SRecord_f1_run w b o)
theorem SRecord_f2_run (w : World) (b o : Nat) : (Instr.fieldAt 64 (.pointer (some ⟨b, o, none⟩)) 2).run Tryz.prog w = .ok (.pointer (some ⟨b, o + 13, none⟩)) w := by kernel_rfl
theorem SRecord_f2 {b o : Nat} {w : World} {K : Value → World → Prop} {X : List PanicEntry → World → Prop} : DoV Tryz.prog (Instr.fieldAt 64 (.pointer (some ⟨b, o, none⟩)) 2) w K X = K (.pointer (some ⟨b, o + 13, none⟩)) w := DoV_ok (SRecord_f2_run w b o)
theorem SRecord_f3_run (w : World) (b o : Nat) : (Instr.fieldAt 64 (.pointer (some ⟨b, o, none⟩)) 3).run Tryz.prog w = .ok (.pointer (some ⟨b, o + 14, none⟩)) w := by kernel_rfl
theorem SRecord_f3 {b o : Nat} {w : World} {K : Value → World → Prop} {X : List PanicEntry → World → Prop} : DoV Tryz.prog (Instr.fieldAt 64 (.pointer (some ⟨b, o, none⟩)) 3) w K X = K (.pointer (some ⟨b, o + 14, none⟩)) w := DoV_ok (SRecord_f3_run w b o)
end Ty
theorem SRecord.g_kind {s : SRecord} {b o : Nat} {w : World} {K : Value → World → Prop} {X0 X1 : List PanicEntry → World → Prop} (h : Has w b o s.cells) : DoV Tryz.prog (Instr.fieldAt 64 (.pointer (some ⟨b, o, none⟩)) 0) w (fun a1 w1 => DoV Tryz.prog (Instr.loadAt 3 a1) w1 K X0) X1 = K (.int .i64 s.kind) w := by
  rw [Ty.SRecord_f0, load_cell Ty.int_agg (has_at h (d := 0) (by omega) rfl)]
theorem SRecord.g_entry {s : SRecord} {b o : Nat} {w : World} {K : Value → World → Prop} {X0 X1 : List PanicEntry → World → Prop} (h : Has w b o s.cells) : DoV Tryz.prog (Instr.fieldAt 64 (.pointer (some ⟨b, o, none⟩)) 1) w (fun a1 w1 => DoV Tryz.prog (Instr.loadAt 38 a1) w1 K X0) X1 = K (.agg s.entry.cells.toArray) w := by
  rw [Ty.SRecord_f1, load_arr (n := 12) (xs := s.entry.cells) Ty.SEntry_agg Ty.SEntry_size rfl (fun j u hu => has_part h (d := 1) (n := 12) (xs := s.entry.cells) (by omega) rfl hu)]
theorem SRecord.g_entry_seq {s : SRecord} {b o : Nat} {w : World} {K : Value → World → Prop} {X0 X1 X2 : List PanicEntry → World → Prop} (h : Has w b o s.cells) : DoV Tryz.prog (Instr.fieldAt 64 (.pointer (some ⟨b, o, none⟩)) 1) w (fun a1 w1 => DoV Tryz.prog (Instr.fieldAt 38 a1 0) w1 (fun a2 w2 => DoV Tryz.prog (Instr.loadAt 3 a2) w2 K X0) X2) X1 = K (.int .i64 s.entry.seq) w := by
  rw [Ty.SRecord_f1, Ty.SEntry_f0, load_cell Ty.int_agg (has_at h (d := 1) (by omega) rfl)]
theorem SRecord.g_seq {s : SRecord} {b o : Nat} {w : World} {K : Value → World → Prop} {X0 X1 : List PanicEntry → World → Prop} (h : Has w b o s.cells) : DoV Tryz.prog (Instr.fieldAt 64 (.pointer (some ⟨b, o, none⟩)) 2) w (fun a1 w1 => DoV Tryz.prog (Instr.loadAt 3 a1) w1 K X0) X1 = K (.int .i64 s.seq) w := by
  rw [Ty.SRecord_f2, load_cell Ty.int_agg (has_at h (d := 13) (by omega) rfl)]
theorem SRecord.g_chain {s : SRecord} {b o : Nat} {w : World} {K : Value → World → Prop} {X0 X1 : List PanicEntry → World → Prop} (h : Has w b o s.cells) : DoV Tryz.prog (Instr.fieldAt 64 (.pointer (some ⟨b, o, none⟩)) 3) w (fun a1 w1 => DoV Tryz.prog (Instr.loadAt 61 a1) w1 K X0) X1 = K (u64v s.chain) w := by
  rw [Ty.SRecord_f3, load_cell Ty.u64_agg (has_at h (d := 14) (by omega) rfl)]
theorem SRecord.g_all {s : SRecord} {b o : Nat} {w : World} {K : Value → World → Prop} {X : List PanicEntry → World → Prop} (h : Has w b o s.cells) : DoV Tryz.prog (Instr.loadAt 64 (.pointer (some ⟨b, o, none⟩))) w K X = K (.agg s.cells.toArray) w := load_arr (n := 15) (xs := s.cells) Ty.SRecord_agg Ty.SRecord_size rfl h
theorem SRecord.set {s r : SRecord} {b : Nat} {e : TypeId} {w : World} {K : Value → World → Prop} {X : List PanicEntry → World → Prop} (h : At w b (.cells r.cells.toArray e (0, 0))) (hk : ∀ w1, Mod (· = b) w w1 → At w1 b (.cells s.cells.toArray e (0, 0)) → w1.heap.size = w.heap.size → K undef w1) : DoU Tryz.prog (Instr.storeAt 64 (.pointer (some ⟨b, 0, none⟩)) (.agg s.cells.toArray)) w K X := store_all (n := 15) Ty.SRecord_size h rfl rfl (by intro u hu; exact SRecord.one s u hu) hk
end Go.Proofs.YtoeblipchoglaaaGreatDoor
namespace Go.Proofs.YtoeblipchoglaaaGreatDoor
open Sh Go.RowKit Go.WideShapes Go.ChangeShapes
set_option maxRecDepth 100000
structure SPoint where
  x : Int
  y : Int
deriving DecidableEq
instance : Inhabited SPoint := ⟨⟨0, 0⟩⟩
def SPoint.cells (s : SPoint) : List Value := [.int .i64 s.x] ++ [.int .i64 s.y]
theorem SPoint.cells_eq (s : SPoint) : s.cells = [.int .i64 s.x, .int .i64 s.y] := rfl
theorem SPoint.len (s : SPoint) : s.cells.length = 2 := rfl
theorem SPoint.one (s : SPoint) : ∀ u ∈ s.cells, u.oneCell' = true := by
  intro u hu
  rw [SPoint.cells_eq] at hu
  simp only [List.mem_cons, List.not_mem_nil, or_false] at hu
  rcases hu with rfl | rfl <;> rfl
def SPoint.Ok (s : SPoint) : Prop := I64 s.x ∧ I64 s.y
def SPoint.zero : SPoint := ⟨0, 0⟩
namespace Ty
theorem SPoint_und : Tryz.prog.underlying 52 = some (.struct (Tryz.prog.fieldsOf 52)) := by kernel_rfl
theorem SPoint_agg (w : World) : (isAgg 52).run Tryz.prog w = .ok true w := by kernel_rfl
theorem SPoint_size (w : World) : (sizeOf 52).run Tryz.prog w = .ok 2 w := by kernel_rfl
theorem SPoint_zero (w : World) : (zeroValue 52).run Tryz.prog w = .ok (.agg SPoint.zero.cells.toArray) w := by kernel_rfl
theorem SPoint_cells : Tryz.prog.cellsOf 52 = 2 := by kernel_rfl
theorem SPoint_info : (Tryz.prog.info? 52).map (fun i => (i.zero, i.size, i.bytes)) = some (some (.agg SPoint.zero.cells.toArray), 2, 16) := by kernel_rfl
theorem SPoint_f0_run (w : World) (b o : Nat) : (Instr.fieldAt 52 (.pointer (some ⟨b, o, none⟩)) 0).run Tryz.prog w = .ok (.pointer (some ⟨b, o, none⟩)) w := by kernel_rfl
theorem SPoint_f0 {b o : Nat} {w : World} {K : Value → World → Prop} {X : List PanicEntry → World → Prop} : DoV Tryz.prog (Instr.fieldAt 52 (.pointer (some ⟨b, o, none⟩)) 0) w K X = K (.pointer (some ⟨b, o, none⟩)) w := DoV_ok (SPoint_f0_run w b o)
theorem SPoint_f1_run (w : World) (b o : Nat) : (Instr.fieldAt 52 (.pointer (some ⟨b, o, none⟩)) 1).run Tryz.prog w = .ok (.pointer (some ⟨b, o + 1, none⟩)) w := by kernel_rfl
theorem SPoint_f1 {b o : Nat} {w : World} {K : Value → World → Prop} {X : List PanicEntry → World → Prop} : DoV Tryz.prog (Instr.fieldAt 52 (.pointer (some ⟨b, o, none⟩)) 1) w K X = K (.pointer (some ⟨b, o + 1, none⟩)) w := DoV_ok (SPoint_f1_run w b o)
theorem SPoint_flds : (Tryz.prog.fieldsOf 52).toList.map (fun f => (f.type, f.offset, f.name == "_")) = [(3, 0, false), (3, 1, false)] := by kernel_rfl
theorem SPoint_stood : Tryz.prog.stoodInHeld 52 = false := by kernel_rfl
theorem SPoint_guard (w : World) (op : BinOp) (ox oy : Operand) (x y : Array Value) : (eqGuard op 52 ox oy (.agg x) (.agg y)).run Tryz.prog w = .ok () w := run_eqGuard_agg w op 52 ox oy x y (by kernel_rfl)
end Ty
theorem SPoint.eq_run (d : Nat) (w : World) (a b : SPoint) : (Op.equalIn (d + 3) 52 (.agg a.cells.toArray) (.agg b.cells.toArray)).run Tryz.prog w = .ok (decide (a = b)) w := by
  rw [show d + 3 = (d + 2) + 1 from rfl, run_equalIn_agg w (d + 2) _ _ _ Ty.SPoint_und Ty.SPoint_stood]
  rw [eqFlds Ty.SPoint_flds (by decide)]
  have p0 : ∀ (c : SPoint) (w : World), (part 3 c.cells.toArray 0).run Tryz.prog w = .ok (.int .i64 c.x) w := fun c w => part_one Ty.int_agg rfl
  have q0 : ∀ (w : World), (Op.equalIn (d + 2) 3 (.int .i64 a.x) (.int .i64 b.x)).run Tryz.prog w = .ok (decide (a.x = b.x)) w := fun w => eq_int Ty.int
  have p1 : ∀ (c : SPoint) (w : World), (part 3 c.cells.toArray 1).run Tryz.prog w = .ok (.int .i64 c.y) w := fun c w => part_one Ty.int_agg rfl
  have q1 : ∀ (w : World), (Op.equalIn (d + 2) 3 (.int .i64 a.y) (.int .i64 b.y)).run Tryz.prog w = .ok (decide (a.y = b.y)) w := fun w => eq_int Ty.int
  have e : (a = b) ↔ (a.x = b.x ∧ a.y = b.y) := by
    constructor
    · rintro rfl; simp
    · rintro ⟨h0, h1⟩
      cases a; cases b; simp only at h0 h1; subst h0 h1; rfl
  rw [eqList_cons (p0 a) (p0 b) q0 (eqList_cons (p1 a) (p1 b) q1 eqList_nil) w]
  congr 1
  rw [Bool.eq_iff_iff]
  simp only [Bool.and_eq_true, decide_eq_true_eq, and_true, e]
theorem SPoint.neq {w : World} {K : Value → World → Prop} {X : List PanicEntry → World → Prop} {ox oy : Operand} {a b : SPoint} : DoV Tryz.prog (binS .neq 52 ox oy (.agg a.cells.toArray) (.agg b.cells.toArray)) w K X = K (.bool (!decide (a = b))) w := by
  refine DoV_ok ?_
  have e := SPoint.eq_run 9997 w a b
  simp only [binS, Sem.run_bind, Ty.SPoint_guard, Result.andThen_ok, run_neq_struct]
  rw [e]; rfl
theorem SPoint.of_trod {H : Type} {enc : TypeId × Value → H} {W : World} {fuel : Nat} {cs : List Value} {x : DataW H × List MemPlace} (h : DataW.trod enc Tryz.prog W 0 (fun _ => true) true fuel 52 cs = some x) : ∃ a : SPoint, cs = a.cells ∧ a.Ok := by
  have hcs : cs.length = 2 := by
    obtain ⟨_, _, _, _, hl, _⟩ := DataW.trod_struct Ty.SPoint_und h
    rw [hl]; exact Ty.SPoint_cells
  obtain ⟨m0, y0, g0⟩ := trod_fld Ty.SPoint_und Ty.SPoint_flds h (i := 0) rfl
  rw [Ty.int_cells] at g0
  obtain ⟨m1, y1, g1⟩ := trod_fld Ty.SPoint_und Ty.SPoint_flds h (i := 1) rfl
  rw [Ty.int_cells] at g1
  match cs, hcs with
  | [u0, u1], _ =>
    have g0 : DataW.trod enc Tryz.prog W 0 (fun _ => true) true m0 3 [u0] = some y0 := g0
    obtain ⟨a0, c0, k0⟩ := leaf_int Ty.int g0
    have g1 : DataW.trod enc Tryz.prog W 0 (fun _ => true) true m1 3 [u1] = some y1 := g1
    obtain ⟨a1, c1, k1⟩ := leaf_int Ty.int g1
    refine ⟨⟨a0, a1⟩, ?_, k0, k1⟩
    show [u0] ++ [u1] = [.int .i64 a0] ++ [.int .i64 a1]
    rw [c0, c1]
theorem SPoint.g_x {s : SPoint} {b o : Nat} {w : World} {K : Value → World → Prop} {X0 X1 : List PanicEntry → World → Prop} (h : Has w b o s.cells) : DoV Tryz.prog (Instr.fieldAt 52 (.pointer (some ⟨b, o, none⟩)) 0) w (fun a1 w1 => DoV Tryz.prog (Instr.loadAt 3 a1) w1 K X0) X1 = K (.int .i64 s.x) w := by
  rw [Ty.SPoint_f0, load_cell Ty.int_agg (has_at h (d := 0) (by omega) rfl)]
theorem SPoint.g_y {s : SPoint} {b o : Nat} {w : World} {K : Value → World → Prop} {X0 X1 : List PanicEntry → World → Prop} (h : Has w b o s.cells) : DoV Tryz.prog (Instr.fieldAt 52 (.pointer (some ⟨b, o, none⟩)) 1) w (fun a1 w1 => DoV Tryz.prog (Instr.loadAt 3 a1) w1 K X0) X1 = K (.int .i64 s.y) w := by
  rw [Ty.SPoint_f1, load_cell Ty.int_agg (has_at h (d := 1) (by omega) rfl)]
theorem SPoint.g_all {s : SPoint} {b o : Nat} {w : World} {K : Value → World → Prop} {X : List PanicEntry → World → Prop} (h : Has w b o s.cells) : DoV Tryz.prog (Instr.loadAt 52 (.pointer (some ⟨b, o, none⟩))) w K X = K (.agg s.cells.toArray) w := load_arr (n := 2) (xs := s.cells) Ty.SPoint_agg Ty.SPoint_size rfl h
theorem SPoint.set {s r : SPoint} {b : Nat} {e : TypeId} {w : World} {K : Value → World → Prop} {X : List PanicEntry → World → Prop} (h : At w b (.cells r.cells.toArray e (0, 0))) (hk : ∀ w1, Mod (· = b) w w1 → At w1 b (.cells s.cells.toArray e (0, 0)) → w1.heap.size = w.heap.size → K undef w1) : DoU Tryz.prog (Instr.storeAt 52 (.pointer (some ⟨b, 0, none⟩)) (.agg s.cells.toArray)) w K X := store_all (n := 2) Ty.SPoint_size h rfl rfl (by intro u hu; exact SPoint.one s u hu) hk
structure SLog where
  veh : Int
  start : Hdr
  ents : Hdr
instance : Inhabited SLog := ⟨⟨0, ⟨none, 0, 0⟩, ⟨none, 0, 0⟩⟩⟩
def SLog.cells (s : SLog) : List Value := [.int .i64 s.veh] ++ [s.start.val] ++ [s.ents.val]
theorem SLog.cells_eq (s : SLog) : s.cells = [.int .i64 s.veh, s.start.val, s.ents.val] := rfl
theorem SLog.one (s : SLog) : ∀ u ∈ s.cells, u.oneCell' = true := by
  intro u hu
  rw [SLog.cells_eq] at hu
  simp only [List.mem_cons, List.not_mem_nil, or_false] at hu
  rcases hu with rfl | rfl | rfl <;> rfl
def SLog.zero : SLog := ⟨0, ⟨none, 0, 0⟩, ⟨none, 0, 0⟩⟩
namespace Ty
theorem SLog_und : Tryz.prog.underlying 25 = some (.struct (Tryz.prog.fieldsOf 25)) := by kernel_rfl
theorem SLog_agg (w : World) : (isAgg 25).run Tryz.prog w = .ok true w := by kernel_rfl
theorem SLog_size (w : World) : (sizeOf 25).run Tryz.prog w = .ok 3 w := by kernel_rfl
theorem SLog_zero (w : World) : (zeroValue 25).run Tryz.prog w = .ok (.agg SLog.zero.cells.toArray) w := by kernel_rfl
theorem SLog_cells : Tryz.prog.cellsOf 25 = 3 := by kernel_rfl
theorem SLog_f0_run (w : World) (b o : Nat) : (Instr.fieldAt 25 (.pointer (some ⟨b, o, none⟩)) 0).run Tryz.prog w = .ok (.pointer (some ⟨b, o, none⟩)) w := by kernel_rfl
theorem SLog_f0 {b o : Nat} {w : World} {K : Value → World → Prop} {X : List PanicEntry → World → Prop} : DoV Tryz.prog (Instr.fieldAt 25 (.pointer (some ⟨b, o, none⟩)) 0) w K X = K (.pointer (some ⟨b, o, none⟩)) w := DoV_ok (SLog_f0_run w b o)
theorem SLog_f1_run (w : World) (b o : Nat) : (Instr.fieldAt 25 (.pointer (some ⟨b, o, none⟩)) 1).run Tryz.prog w = .ok (.pointer (some ⟨b, o + 1, none⟩)) w := by kernel_rfl
theorem SLog_f1 {b o : Nat} {w : World} {K : Value → World → Prop} {X : List PanicEntry → World → Prop} : DoV Tryz.prog (Instr.fieldAt 25 (.pointer (some ⟨b, o, none⟩)) 1) w K X = K (.pointer (some ⟨b, o + 1, none⟩)) w := DoV_ok (SLog_f1_run w b o)
theorem SLog_f2_run (w : World) (b o : Nat) : (Instr.fieldAt 25 (.pointer (some ⟨b, o, none⟩)) 2).run Tryz.prog w = .ok (.pointer (some ⟨b, o + 2, none⟩)) w := by kernel_rfl
theorem SLog_f2 {b o : Nat} {w : World} {K : Value → World → Prop} {X : List PanicEntry → World → Prop} : DoV Tryz.prog (Instr.fieldAt 25 (.pointer (some ⟨b, o, none⟩)) 2) w K X = K (.pointer (some ⟨b, o + 2, none⟩)) w := DoV_ok (SLog_f2_run w b o)
theorem SLog_flds : (Tryz.prog.fieldsOf 25).toList.map (fun f => (f.type, f.offset, f.name == "_")) = [(3, 0, false), (22, 1, false), (23, 2, false)] := by kernel_rfl
end Ty
theorem SLog.g_veh {s : SLog} {b o : Nat} {w : World} {K : Value → World → Prop} {X0 X1 : List PanicEntry → World → Prop} (h : Has w b o s.cells) : DoV Tryz.prog (Instr.fieldAt 25 (.pointer (some ⟨b, o, none⟩)) 0) w (fun a1 w1 => DoV Tryz.prog (Instr.loadAt 3 a1) w1 K X0) X1 = K (.int .i64 s.veh) w := by
  rw [Ty.SLog_f0, load_cell Ty.int_agg (has_at h (d := 0) (by omega) rfl)]
theorem SLog.g_start {s : SLog} {b o : Nat} {w : World} {K : Value → World → Prop} {X0 X1 : List PanicEntry → World → Prop} (h : Has w b o s.cells) : DoV Tryz.prog (Instr.fieldAt 25 (.pointer (some ⟨b, o, none⟩)) 1) w (fun a1 w1 => DoV Tryz.prog (Instr.loadAt 22 a1) w1 K X0) X1 = K (s.start.val) w := by
  rw [Ty.SLog_f1, load_cell (fun w => show (isAgg 22).run Tryz.prog w = .ok false w by kernel_rfl) (has_at h (d := 1) (by omega) rfl)]
theorem SLog.g_ents {s : SLog} {b o : Nat} {w : World} {K : Value → World → Prop} {X0 X1 : List PanicEntry → World → Prop} (h : Has w b o s.cells) : DoV Tryz.prog (Instr.fieldAt 25 (.pointer (some ⟨b, o, none⟩)) 2) w (fun a1 w1 => DoV Tryz.prog (Instr.loadAt 23 a1) w1 K X0) X1 = K (s.ents.val) w := by
  rw [Ty.SLog_f2, load_cell (fun w => show (isAgg 23).run Tryz.prog w = .ok false w by kernel_rfl) (has_at h (d := 2) (by omega) rfl)]
theorem SLog.s_start {s : SLog} {x : Hdr} {b : Nat} {e : TypeId} {w : World} {K : Value → World → Prop} {X0 X1 : List PanicEntry → World → Prop} (h : At w b (.cells s.cells.toArray e (0, 0))) (hk : ∀ w1, Mod (· = b) w w1 → At w1 b (.cells ({ s with start := x } : SLog).cells.toArray e (0, 0)) → w1.heap.size = w.heap.size → K undef w1) : DoV Tryz.prog (Instr.fieldAt 25 (.pointer (some ⟨b, 0, none⟩)) 1) w (fun a w1 => DoU Tryz.prog (Instr.storeAt 22 a (x.val)) w1 K X0) X1 := by
  rw [Ty.SLog_f1]
  exact store_i (o := 1) (fun w => show (sizeOf 22).run Tryz.prog w = .ok 1 w by kernel_rfl) h (by show 1 < 3; omega) rfl hk
theorem SLog.s_ents {s : SLog} {x : Hdr} {b : Nat} {e : TypeId} {w : World} {K : Value → World → Prop} {X0 X1 : List PanicEntry → World → Prop} (h : At w b (.cells s.cells.toArray e (0, 0))) (hk : ∀ w1, Mod (· = b) w w1 → At w1 b (.cells ({ s with ents := x } : SLog).cells.toArray e (0, 0)) → w1.heap.size = w.heap.size → K undef w1) : DoV Tryz.prog (Instr.fieldAt 25 (.pointer (some ⟨b, 0, none⟩)) 2) w (fun a w1 => DoU Tryz.prog (Instr.storeAt 23 a (x.val)) w1 K X0) X1 := by
  rw [Ty.SLog_f2]
  exact store_i (o := 2) (fun w => show (sizeOf 23).run Tryz.prog w = .ok 1 w by kernel_rfl) h (by show 2 < 3; omega) rfl hk
theorem SLog.g_all {s : SLog} {b o : Nat} {w : World} {K : Value → World → Prop} {X : List PanicEntry → World → Prop} (h : Has w b o s.cells) : DoV Tryz.prog (Instr.loadAt 25 (.pointer (some ⟨b, o, none⟩))) w K X = K (.agg s.cells.toArray) w := load_arr (n := 3) (xs := s.cells) Ty.SLog_agg Ty.SLog_size rfl h
theorem SLog.set {s r : SLog} {b : Nat} {e : TypeId} {w : World} {K : Value → World → Prop} {X : List PanicEntry → World → Prop} (h : At w b (.cells r.cells.toArray e (0, 0))) (hk : ∀ w1, Mod (· = b) w w1 → At w1 b (.cells s.cells.toArray e (0, 0)) → w1.heap.size = w.heap.size → K undef w1) : DoU Tryz.prog (Instr.storeAt 25 (.pointer (some ⟨b, 0, none⟩)) (.agg s.cells.toArray)) w K X := store_all (n := 3) Ty.SLog_size h rfl rfl (by intro u hu; exact SLog.one s u hu) hk
structure SReport where
  veh : Int
  first : Int
  ents : Hdr
  before : BitVec 64
  chain : BitVec 64
  sig : SSig
instance : Inhabited SReport := ⟨⟨0, 0, ⟨none, 0, 0⟩, 0, 0, ⟨0, 0⟩⟩⟩
def SReport.cells (s : SReport) : List Value := [.int .i64 s.veh] ++ [.int .i64 s.first] ++ [s.ents.val] ++ [u64v s.before] ++ [u64v s.chain] ++ s.sig.cells
theorem SReport.cells_eq (s : SReport) : s.cells = [.int .i64 s.veh, .int .i64 s.first, s.ents.val, u64v s.before, u64v s.chain, .int .i64 s.sig.e, .int .i64 s.sig.s] := rfl
theorem SReport.one (s : SReport) : ∀ u ∈ s.cells, u.oneCell' = true := by
  intro u hu
  rw [SReport.cells_eq] at hu
  simp only [List.mem_cons, List.not_mem_nil, or_false] at hu
  rcases hu with rfl | rfl | rfl | rfl | rfl | rfl | rfl <;> rfl
def SReport.zero : SReport := ⟨0, 0, ⟨none, 0, 0⟩, 0, 0, ⟨0, 0⟩⟩
namespace Ty
theorem SReport_agg (w : World) : (isAgg 97).run Tryz.prog w = .ok true w := by kernel_rfl
theorem SReport_size (w : World) : (sizeOf 97).run Tryz.prog w = .ok 7 w := by kernel_rfl
theorem SReport_zero (w : World) : (zeroValue 97).run Tryz.prog w = .ok (.agg SReport.zero.cells.toArray) w := by kernel_rfl
theorem SReport_f0_run (w : World) (b o : Nat) : (Instr.fieldAt 97 (.pointer (some ⟨b, o, none⟩)) 0).run Tryz.prog w = .ok (.pointer (some ⟨b, o, none⟩)) w := by kernel_rfl
theorem SReport_f0 {b o : Nat} {w : World} {K : Value → World → Prop} {X : List PanicEntry → World → Prop} : DoV Tryz.prog (Instr.fieldAt 97 (.pointer (some ⟨b, o, none⟩)) 0) w K X = K (.pointer (some ⟨b, o, none⟩)) w := DoV_ok (SReport_f0_run w b o)
theorem SReport_f1_run (w : World) (b o : Nat) : (Instr.fieldAt 97 (.pointer (some ⟨b, o, none⟩)) 1).run Tryz.prog w = .ok (.pointer (some ⟨b, o + 1, none⟩)) w := by kernel_rfl
theorem SReport_f1 {b o : Nat} {w : World} {K : Value → World → Prop} {X : List PanicEntry → World → Prop} : DoV Tryz.prog (Instr.fieldAt 97 (.pointer (some ⟨b, o, none⟩)) 1) w K X = K (.pointer (some ⟨b, o + 1, none⟩)) w := DoV_ok (SReport_f1_run w b o)
theorem SReport_f2_run (w : World) (b o : Nat) : (Instr.fieldAt 97 (.pointer (some ⟨b, o, none⟩)) 2).run Tryz.prog w = .ok (.pointer (some ⟨b, o + 2, none⟩)) w := by kernel_rfl
theorem SReport_f2 {b o : Nat} {w : World} {K : Value → World → Prop} {X : List PanicEntry → World → Prop} : DoV Tryz.prog (Instr.fieldAt 97 (.pointer (some ⟨b, o, none⟩)) 2) w K X = K (.pointer (some ⟨b, o + 2, none⟩)) w := DoV_ok (SReport_f2_run w b o)
theorem SReport_f3_run (w : World) (b o : Nat) : (Instr.fieldAt 97 (.pointer (some ⟨b, o, none⟩)) 3).run Tryz.prog w = .ok (.pointer (some ⟨b, o + 3, none⟩)) w := by kernel_rfl
theorem SReport_f3 {b o : Nat} {w : World} {K : Value → World → Prop} {X : List PanicEntry → World → Prop} : DoV Tryz.prog (Instr.fieldAt 97 (.pointer (some ⟨b, o, none⟩)) 3) w K X = K (.pointer (some ⟨b, o + 3, none⟩)) w := DoV_ok (SReport_f3_run w b o)
theorem SReport_f4_run (w : World) (b o : Nat) : (Instr.fieldAt 97 (.pointer (some ⟨b, o, none⟩)) 4).run Tryz.prog w = .ok (.pointer (some ⟨b, o + 4, none⟩)) w := by kernel_rfl
theorem SReport_f4 {b o : Nat} {w : World} {K : Value → World → Prop} {X : List PanicEntry → World → Prop} : DoV Tryz.prog (Instr.fieldAt 97 (.pointer (some ⟨b, o, none⟩)) 4) w K X = K (.pointer (some ⟨b, o + 4, none⟩)) w := DoV_ok (SReport_f4_run w b o)
theorem SReport_f5_run (w : World) (b o : Nat) : (Instr.fieldAt 97 (.pointer (some ⟨b, o, none⟩)) 5).run Tryz.prog w = .ok (.pointer (some ⟨b, o + 5, none⟩)) w := by kernel_rfl
theorem SReport_f5 {b o : Nat} {w : World} {K : Value → World → Prop} {X : List PanicEntry → World → Prop} : DoV Tryz.prog (Instr.fieldAt 97 (.pointer (some ⟨b, o, none⟩)) 5) w K X = K (.pointer (some ⟨b, o + 5, none⟩)) w := DoV_ok (SReport_f5_run w b o)
end Ty
theorem SReport.g_veh {s : SReport} {b o : Nat} {w : World} {K : Value → World → Prop} {X0 X1 : List PanicEntry → World → Prop} (h : Has w b o s.cells) : DoV Tryz.prog (Instr.fieldAt 97 (.pointer (some ⟨b, o, none⟩)) 0) w (fun a1 w1 => DoV Tryz.prog (Instr.loadAt 3 a1) w1 K X0) X1 = K (.int .i64 s.veh) w := by
  rw [Ty.SReport_f0, load_cell Ty.int_agg (has_at h (d := 0) (by omega) rfl)]
theorem SReport.g_first {s : SReport} {b o : Nat} {w : World} {K : Value → World → Prop} {X0 X1 : List PanicEntry → World → Prop} (h : Has w b o s.cells) : DoV Tryz.prog (Instr.fieldAt 97 (.pointer (some ⟨b, o, none⟩)) 1) w (fun a1 w1 => DoV Tryz.prog (Instr.loadAt 3 a1) w1 K X0) X1 = K (.int .i64 s.first) w := by
  rw [Ty.SReport_f1, load_cell Ty.int_agg (has_at h (d := 1) (by omega) rfl)]
theorem SReport.g_ents {s : SReport} {b o : Nat} {w : World} {K : Value → World → Prop} {X0 X1 : List PanicEntry → World → Prop} (h : Has w b o s.cells) : DoV Tryz.prog (Instr.fieldAt 97 (.pointer (some ⟨b, o, none⟩)) 2) w (fun a1 w1 => DoV Tryz.prog (Instr.loadAt 23 a1) w1 K X0) X1 = K (s.ents.val) w := by
  rw [Ty.SReport_f2, load_cell (fun w => show (isAgg 23).run Tryz.prog w = .ok false w by kernel_rfl) (has_at h (d := 2) (by omega) rfl)]
theorem SReport.g_before {s : SReport} {b o : Nat} {w : World} {K : Value → World → Prop} {X0 X1 : List PanicEntry → World → Prop} (h : Has w b o s.cells) : DoV Tryz.prog (Instr.fieldAt 97 (.pointer (some ⟨b, o, none⟩)) 3) w (fun a1 w1 => DoV Tryz.prog (Instr.loadAt 61 a1) w1 K X0) X1 = K (u64v s.before) w := by
  rw [Ty.SReport_f3, load_cell Ty.u64_agg (has_at h (d := 3) (by omega) rfl)]
theorem SReport.g_chain {s : SReport} {b o : Nat} {w : World} {K : Value → World → Prop} {X0 X1 : List PanicEntry → World → Prop} (h : Has w b o s.cells) : DoV Tryz.prog (Instr.fieldAt 97 (.pointer (some ⟨b, o, none⟩)) 4) w (fun a1 w1 => DoV Tryz.prog (Instr.loadAt 61 a1) w1 K X0) X1 = K (u64v s.chain) w := by
  rw [Ty.SReport_f4, load_cell Ty.u64_agg (has_at h (d := 4) (by omega) rfl)]
theorem SReport.g_all {s : SReport} {b o : Nat} {w : World} {K : Value → World → Prop} {X : List PanicEntry → World → Prop} (h : Has w b o s.cells) : DoV Tryz.prog (Instr.loadAt 97 (.pointer (some ⟨b, o, none⟩))) w K X = K (.agg s.cells.toArray) w := load_arr (n := 7) (xs := s.cells) Ty.SReport_agg Ty.SReport_size rfl h
theorem SReport.set {s r : SReport} {b : Nat} {e : TypeId} {w : World} {K : Value → World → Prop} {X : List PanicEntry → World → Prop} (h : At w b (.cells r.cells.toArray e (0, 0))) (hk : ∀ w1, Mod (· = b) w w1 → At w1 b (.cells s.cells.toArray e (0, 0)) → w1.heap.size = w.heap.size → K undef w1) : DoU Tryz.prog (Instr.storeAt 97 (.pointer (some ⟨b, 0, none⟩)) (.agg s.cells.toArray)) w K X := store_all (n := 7) Ty.SReport_size h rfl rfl (by intro u hu; exact SReport.one s u hu) hk
end Go.Proofs.YtoeblipchoglaaaGreatDoor
namespace Go.Proofs.YtoeblipchoglaaaGreatDoor
set_option maxRecDepth 100000
namespace Sh
open Go.RowKit
variable {P : Program} {w w' : World} {K : Value → World → Prop} {X : List PanicEntry → World → Prop}
theorem Own.of_at {base g sz n : Nat} {e : TypeId} {xs : List Value} (h : At w g (.cells xs.toArray e (0, 0))) (hb : base ≤ g) (hn : n ≤ maxLen) (hl : xs.length = n * sz) : w.ownsRow base e sz (.slice (some ⟨g, 0, none⟩) n n) n xs :=
  ⟨hl, .inr ⟨g, n, _, rfl, hb, h, Nat.le_refl _, hn, by simpa using hl, by simp [← hl]⟩⟩
theorem lit_els {α : Type} {c : α → List Value} {T e : TypeId} {i : TypeInfo} {z : Value} {sz n : Nat} {parts : Array (Nat × Value)} (x : α → Value) (ls : List α) (hT : P.underlying T = some (.slice e)) (hi : P.info? e = some i) (hz : i.zero = some z)
    (hsz : i.size = sz) (hpos : 0 < sz) (hc : ∀ a, (c a).length = sz) (hx : ∀ a, (x a).cells = (c a).toArray) (hn : ls.length = n) (hn0 : 0 < n) (hsm : n * sz ≤ 16777216)
    (hp : parts.toList = ((ls.map x).zipIdx 0).map fun y => (y.2, y.1))
    (hk : ∀ v w1, Ext w w1 → w1.ownsRow w.heap.size e sz v ls.length (fl c ls) → w1.heap.size = w.heap.size + 1 → K v w1) : DoV P (Instr.buildSlice T n parts) w K X := by
  have hn1 : n ≤ 16777216 := Nat.le_trans (Nat.le_mul_of_pos_right n hpos) hsm
  have hfl : (fl c ls).length = n * sz := by rw [fl_length hc, hn]
  have e1 := run_buildSlice (P := P) w T e n parts (fl c ls).toArray i z hT hi hz (by rw [hsz]; omega) (by rw [hsz]; exact Nat.ne_of_gt (Nat.mul_pos hn0 hpos)) (by
    obtain ⟨r, hr, hsz2, hkk⟩ := Great.fill_dense (s := i.size) (by omega) (ls.map x) 0 ((Array.range (n * i.size)).map (z.cells[· % z.cells.size]!)) (fun v hv => by obtain ⟨a, _, rfl⟩ := List.mem_map.1 hv; rw [hx, hsz]; simpa using hc a) (by simp [hn])
    rw [hp, hr]
    congr 1
    apply Array.ext_getElem?
    intro k
    rw [hkk k]
    by_cases hlt : k < n * sz
    · rw [if_pos (by rw [List.length_map, hn, hsz, Nat.zero_add]; omega), hsz, Nat.sub_zero]
      have hd : k / sz < ls.length := by rw [hn, Nat.div_lt_iff_lt_mul hpos]; exact hlt
      rw [List.getElem?_map, List.getElem?_eq_getElem hd, Option.map_some, Option.bind_some, hx]
      have hm : k % sz < (c ls[k / sz]).length := by rw [hc]; exact Nat.mod_lt _ hpos
      have hg := fl_get hc (l := ls) (k := k / sz) (j := k % sz) hd (List.getElem?_eq_getElem hm)
      rw [Nat.mul_comm, Nat.div_add_mod] at hg
      simp only [List.getElem?_toArray]
      rw [hg, List.getElem?_eq_getElem hm]
    · rw [if_neg (by rw [List.length_map, hn, hsz, Nat.zero_add]; omega)]
      rw [Array.getElem?_eq_none (by simp [hsz]; omega), Array.getElem?_eq_none (by simp [hfl]; omega)])
  rw [DoV_ok e1]
  refine hk _ _ (Ext.alloc _ _) ?_ (by simp)
  rw [hn]
  exact Own.of_at (by unfold At; exact heap_alloc_new w _) (Nat.le_refl _) (by simp only [maxLen]; omega) hfl
theorem lit0_e {T e : TypeId} {i : TypeInfo} {sz : Nat} (hT : P.underlying T = some (.slice e)) (hi : P.info? e = some i)
    (hk : ∀ v w1, Ext w w1 → w1.ownsRow w.heap.size e sz v 0 [] → w1.heap.size = w.heap.size + 1 → K v w1) : DoV P (Instr.buildSlice T 0 #[]) w K X := by
  have e1 : (Instr.buildSlice T 0 #[]).run P w = .ok (.slice (some ⟨w.heap.size, 0, none⟩) 0 0) (w.alloc (.cells #[] e)) := by
    simp [Instr.buildSlice, run_underlying hT, sizeOf, typeInfo, hi, Instr.fill, newRow, newObj, Sem.run]
    rw [show Array.range 0 = #[] by decide]; simp
  rw [DoV_ok e1]
  refine hk _ _ (Ext.alloc _ _) ⟨by simp, .inr ⟨w.heap.size, 0, #[], rfl, Nat.le_refl _, heap_alloc_new w _, Nat.le_refl _, Nat.zero_le _, by simp, by simp⟩⟩ (by simp)
theorem app_els {α : Type} {c : α → List Value} {base : Nat} {T e : TypeId} {ty : TypeId} {cs : Array Bool} {i : TypeInfo} {z : Value} {sz bytes : Nat} (hT : P.underlying T = some (.slice e)) (hi : P.info? e = some i) (hz : i.zero = some z)
    (hsz : i.size = sz) (hby : i.bytes = bytes) (hzs : z.cells.size = sz) (hpos : 0 < sz) (h1 : ∀ a, ∀ u ∈ c a, u.oneCell' = true)
    {v x : Value} {l m : List α} (hown : w.ownsRow base e sz v l.length (fl c l)) (hx : Sl w sz x m.length (fl c m)) (hb : (l.length + m.length) * bytes ≤ 140737488355328) (h63 : l.length + m.length ≤ 140737488355328) (hbase : base ≤ w.heap.size)
    (hk : ∀ v' w1, w1.ownsRow base e sz v' (l ++ m).length (fl c (l ++ m)) → Mod (fun k => v.ownBlock = some k) w w1 → K v' w1) :
    CallB P .append #[T, T] ty cs #[v, x] w K X := by
  refine app_own hT hi hz hsz hby hzs hpos hown hx (fl_one h1 m) hb h63 hbase fun v' w2 h2 hm _ => ?_
  refine hk v' w2 ?_ hm
  rw [fl_append, List.length_append]; exact h2
end Sh
end Go.Proofs.YtoeblipchoglaaaGreatDoor
namespace Go.Proofs.YtoeblipchoglaaaGreatDoor
open Sh Go.RowKit Go.WideShapes Go.ChangeShapes
set_option maxRecDepth 100000
set_option maxHeartbeats 2000000
theorem Ty.SEntry_row : Tryz.prog.underlying 23 = some (.slice 38) := by kernel_rfl
abbrev SEntry.Row (w : World) (v : Value) (l : List SEntry) : Prop := Sl w 12 v l.length (fl SEntry.cells l)
abbrev SEntry.Owns (base : Nat) (w : World) (v : Value) (l : List SEntry) : Prop := w.ownsRow base 38 12 v l.length (fl SEntry.cells l)
theorem SEntry.row_nil (w : World) : SEntry.Row w (.slice none 0 0) [] := Sl.nil _ _
theorem SEntry.owns_nil (base : Nat) (w : World) : SEntry.Owns base w (.slice none 0 0) [] := Own.nil _ _ _ _
theorem SEntry.row_len {w : World} {K : Value → World → Prop} {X : List PanicEntry → World → Prop} {cs : Array Bool} {v : Value} {l : List SEntry} (h : SEntry.Row w v l) : CallB Tryz.prog .len #[23] 3 cs #[v] w K X = K (.int .i64 l.length) w := h.len Ty.SEntry_row
theorem SEntry.row_at {w : World} {v : Value} {l : List SEntry} (h : SEntry.Row w v l) {j : Nat} (hj : j < l.length) : ∃ b o, (∀ w1, Ext w w1 → Has w1 b o l[j].cells) ∧ b < w.heap.size ∧
    ∀ (w1 : World) (K : Value → World → Prop) (X : List PanicEntry → World → Prop), DoV Tryz.prog (Instr.indexAt 23 v (.int .i64 j)) w1 K X = K (.pointer (some ⟨b, o, none⟩)) w1 := by
  obtain ⟨i, hi, hz, hs, hby⟩ := Ty.info_parts Ty.SEntry_info
  obtain ⟨b, o, h1, h2, h3⟩ := Sl.el (c := SEntry.cells) (sz := 12) SEntry.len h Ty.SEntry_row hi hs (k := .i64) hj (by decide)
  have h1 : Has w b o l[j].cells := h1
  exact ⟨b, o, fun w1 x1 => h1.ext h2 x1, h2, h3⟩
theorem SEntry.row_app {w : World} {K : Value → World → Prop} {X : List PanicEntry → World → Prop} {base : Nat} {cs : Array Bool} {v : Value} {l : List SEntry} {a : SEntry} (hown : SEntry.Owns base w v l) (hl : l.length < 100000000000) (hb : base ≤ w.heap.size) (hk : ∀ v' w1, SEntry.Owns base w1 v' (l ++ [a]) → Mod (base ≤ ·) w w1 → K v' w1) :
    DoV Tryz.prog (Instr.buildSlice 23 1 #[(0, .agg a.cells.toArray)]) w (fun s w1 => CallB Tryz.prog .append #[23, 23] 23 cs #[v, s] w1 K X) X := by
  obtain ⟨i, hi, hz, hs, hby⟩ := Ty.info_parts Ty.SEntry_info
  exact app_el (c := SEntry.cells) (x := .agg a.cells.toArray) Ty.SEntry_row hi hz hs hby rfl (by decide) (by decide) SEntry.len SEntry.one rfl hown (by omega) (by omega) hb hk
theorem SEntry.row_apps {w : World} {K : Value → World → Prop} {X : List PanicEntry → World → Prop} {base : Nat} {cs : Array Bool} {v x : Value} {l m : List SEntry} (hown : SEntry.Owns base w v l) (hx : SEntry.Row w x m) (hl : l.length + m.length < 100000000000) (hb : base ≤ w.heap.size) (hk : ∀ v' w1, SEntry.Owns base w1 v' (l ++ m) → Mod (fun k => v.ownBlock = some k) w w1 → K v' w1) :
    CallB Tryz.prog .append #[23, 23] 23 cs #[v, x] w K X := by
  obtain ⟨i, hi, hz, hs, hby⟩ := Ty.info_parts Ty.SEntry_info
  exact app_els (c := SEntry.cells) Ty.SEntry_row hi hz hs hby rfl (by decide) SEntry.one hown hx (by omega) (by omega) hb hk
theorem SEntry.row_lit {w : World} {K : Value → World → Prop} {X : List PanicEntry → World → Prop} {m : Nat} {parts : Array (Nat × Value)} (els : List SEntry) (hn : els.length = m) (hn0 : 0 < m) (hsm : m * 12 ≤ 16777216) (hp : parts.toList = ((els.map fun a => Value.agg a.cells.toArray).zipIdx 0).map fun y => (y.2, y.1))
    (hk : ∀ v w1, Ext w w1 → SEntry.Owns w.heap.size w1 v els → w1.heap.size = w.heap.size + 1 → K v w1) : DoV Tryz.prog (Instr.buildSlice 23 m parts) w K X := by
  obtain ⟨i, hi, hz, hs, hby⟩ := Ty.info_parts Ty.SEntry_info
  exact lit_els (c := SEntry.cells) (fun a => Value.agg a.cells.toArray) els Ty.SEntry_row hi hz hs (by decide) SEntry.len (fun _ => rfl) hn hn0 hsm hp hk
theorem SEntry.row_lit0 {w : World} {K : Value → World → Prop} {X : List PanicEntry → World → Prop} (hk : ∀ v w1, Ext w w1 → SEntry.Owns w.heap.size w1 v [] → w1.heap.size = w.heap.size + 1 → K v w1) : DoV Tryz.prog (Instr.buildSlice 23 0 #[]) w K X := by
  obtain ⟨i, hi, hz, hs, hby⟩ := Ty.info_parts Ty.SEntry_info
  exact lit0_e (sz := 12) Ty.SEntry_row hi hk
theorem SEntry.row_of_trod {H : Type} {enc : TypeId × Value → H} {W : World} {fuel : Nat} {v : Value} {x : DataW H × List MemPlace} (h : DataW.trod enc Tryz.prog W 0 (fun _ => true) true fuel 23 [v] = some x) : ∃ l : List SEntry, SEntry.Row W v l ∧ ∀ a ∈ l, a.Ok :=
  trod_list Ty.SEntry_row Ty.SEntry_cells (by decide) h fun _ _ _ hx => SEntry.of_trod hx
theorem Ty.SRecord_row : Tryz.prog.underlying 68 = some (.slice 64) := by kernel_rfl
abbrev SRecord.Row (w : World) (v : Value) (l : List SRecord) : Prop := Sl w 15 v l.length (fl SRecord.cells l)
abbrev SRecord.Owns (base : Nat) (w : World) (v : Value) (l : List SRecord) : Prop := w.ownsRow base 64 15 v l.length (fl SRecord.cells l)
theorem SRecord.row_nil (w : World) : SRecord.Row w (.slice none 0 0) [] := Sl.nil _ _
theorem SRecord.owns_nil (base : Nat) (w : World) : SRecord.Owns base w (.slice none 0 0) [] := Own.nil _ _ _ _
theorem SRecord.row_len {w : World} {K : Value → World → Prop} {X : List PanicEntry → World → Prop} {cs : Array Bool} {v : Value} {l : List SRecord} (h : SRecord.Row w v l) : CallB Tryz.prog .len #[68] 3 cs #[v] w K X = K (.int .i64 l.length) w := h.len Ty.SRecord_row
theorem SRecord.row_at {w : World} {v : Value} {l : List SRecord} (h : SRecord.Row w v l) {j : Nat} (hj : j < l.length) : ∃ b o, (∀ w1, Ext w w1 → Has w1 b o l[j].cells) ∧ b < w.heap.size ∧
    ∀ (w1 : World) (K : Value → World → Prop) (X : List PanicEntry → World → Prop), DoV Tryz.prog (Instr.indexAt 68 v (.int .i64 j)) w1 K X = K (.pointer (some ⟨b, o, none⟩)) w1 := by
  obtain ⟨i, hi, hz, hs, hby⟩ := Ty.info_parts Ty.SRecord_info
  obtain ⟨b, o, h1, h2, h3⟩ := Sl.el (c := SRecord.cells) (sz := 15) SRecord.len h Ty.SRecord_row hi hs (k := .i64) hj (by decide)
  have h1 : Has w b o l[j].cells := h1
  exact ⟨b, o, fun w1 x1 => h1.ext h2 x1, h2, h3⟩
theorem SRecord.row_app {w : World} {K : Value → World → Prop} {X : List PanicEntry → World → Prop} {base : Nat} {cs : Array Bool} {v : Value} {l : List SRecord} {a : SRecord} (hown : SRecord.Owns base w v l) (hl : l.length < 100000000000) (hb : base ≤ w.heap.size) (hk : ∀ v' w1, SRecord.Owns base w1 v' (l ++ [a]) → Mod (base ≤ ·) w w1 → K v' w1) :
    DoV Tryz.prog (Instr.buildSlice 68 1 #[(0, .agg a.cells.toArray)]) w (fun s w1 => CallB Tryz.prog .append #[68, 68] 68 cs #[v, s] w1 K X) X := by
  obtain ⟨i, hi, hz, hs, hby⟩ := Ty.info_parts Ty.SRecord_info
  exact app_el (c := SRecord.cells) (x := .agg a.cells.toArray) Ty.SRecord_row hi hz hs hby rfl (by decide) (by decide) SRecord.len SRecord.one rfl hown (by omega) (by omega) hb hk
theorem SRecord.row_apps {w : World} {K : Value → World → Prop} {X : List PanicEntry → World → Prop} {base : Nat} {cs : Array Bool} {v x : Value} {l m : List SRecord} (hown : SRecord.Owns base w v l) (hx : SRecord.Row w x m) (hl : l.length + m.length < 100000000000) (hb : base ≤ w.heap.size) (hk : ∀ v' w1, SRecord.Owns base w1 v' (l ++ m) → Mod (fun k => v.ownBlock = some k) w w1 → K v' w1) :
    CallB Tryz.prog .append #[68, 68] 68 cs #[v, x] w K X := by
  obtain ⟨i, hi, hz, hs, hby⟩ := Ty.info_parts Ty.SRecord_info
  exact app_els (c := SRecord.cells) Ty.SRecord_row hi hz hs hby rfl (by decide) SRecord.one hown hx (by omega) (by omega) hb hk
theorem SRecord.row_lit {w : World} {K : Value → World → Prop} {X : List PanicEntry → World → Prop} {m : Nat} {parts : Array (Nat × Value)} (els : List SRecord) (hn : els.length = m) (hn0 : 0 < m) (hsm : m * 15 ≤ 16777216) (hp : parts.toList = ((els.map fun a => Value.agg a.cells.toArray).zipIdx 0).map fun y => (y.2, y.1))
    (hk : ∀ v w1, Ext w w1 → SRecord.Owns w.heap.size w1 v els → w1.heap.size = w.heap.size + 1 → K v w1) : DoV Tryz.prog (Instr.buildSlice 68 m parts) w K X := by
  obtain ⟨i, hi, hz, hs, hby⟩ := Ty.info_parts Ty.SRecord_info
  exact lit_els (c := SRecord.cells) (fun a => Value.agg a.cells.toArray) els Ty.SRecord_row hi hz hs (by decide) SRecord.len (fun _ => rfl) hn hn0 hsm hp hk
end Go.Proofs.YtoeblipchoglaaaGreatDoor
namespace Go.Proofs.YtoeblipchoglaaaGreatDoor
open Sh Go.RowKit Go.WideShapes Go.ChangeShapes
set_option maxRecDepth 100000
set_option maxHeartbeats 2000000
theorem Ty.SPoint_row : Tryz.prog.underlying 53 = some (.slice 52) := by kernel_rfl
abbrev SPoint.Row (w : World) (v : Value) (l : List SPoint) : Prop := Sl w 2 v l.length (fl SPoint.cells l)
abbrev SPoint.Owns (base : Nat) (w : World) (v : Value) (l : List SPoint) : Prop := w.ownsRow base 52 2 v l.length (fl SPoint.cells l)
theorem SPoint.owns_nil (base : Nat) (w : World) : SPoint.Owns base w (.slice none 0 0) [] := Own.nil _ _ _ _
theorem SPoint.row_len {w : World} {K : Value → World → Prop} {X : List PanicEntry → World → Prop} {cs : Array Bool} {v : Value} {l : List SPoint} (h : SPoint.Row w v l) : CallB Tryz.prog .len #[53] 3 cs #[v] w K X = K (.int .i64 l.length) w := h.len Ty.SPoint_row
theorem SPoint.row_at {w : World} {v : Value} {l : List SPoint} (h : SPoint.Row w v l) {j : Nat} (hj : j < l.length) : ∃ b o, (∀ w1, Ext w w1 → Has w1 b o l[j].cells) ∧ b < w.heap.size ∧
    ∀ (w1 : World) (K : Value → World → Prop) (X : List PanicEntry → World → Prop), DoV Tryz.prog (Instr.indexAt 53 v (.int .i64 j)) w1 K X = K (.pointer (some ⟨b, o, none⟩)) w1 := by
  obtain ⟨i, hi, hz, hs, hby⟩ := Ty.info_parts Ty.SPoint_info
  obtain ⟨b, o, h1, h2, h3⟩ := Sl.el (c := SPoint.cells) (sz := 2) SPoint.len h Ty.SPoint_row hi hs (k := .i64) hj (by decide)
  have h1 : Has w b o l[j].cells := h1
  exact ⟨b, o, fun w1 x1 => h1.ext h2 x1, h2, h3⟩
theorem SPoint.row_apps {w : World} {K : Value → World → Prop} {X : List PanicEntry → World → Prop} {base : Nat} {cs : Array Bool} {v x : Value} {l m : List SPoint} (hown : SPoint.Owns base w v l) (hx : SPoint.Row w x m) (hl : l.length + m.length < 100000000000) (hb : base ≤ w.heap.size) (hk : ∀ v' w1, SPoint.Owns base w1 v' (l ++ m) → Mod (fun k => v.ownBlock = some k) w w1 → K v' w1) :
    CallB Tryz.prog .append #[53, 53] 53 cs #[v, x] w K X := by
  obtain ⟨i, hi, hz, hs, hby⟩ := Ty.info_parts Ty.SPoint_info
  exact app_els (c := SPoint.cells) Ty.SPoint_row hi hz hs hby rfl (by decide) SPoint.one hown hx (by omega) (by omega) hb hk
theorem SPoint.row_lit {w : World} {K : Value → World → Prop} {X : List PanicEntry → World → Prop} {m : Nat} {parts : Array (Nat × Value)} (els : List SPoint) (hn : els.length = m) (hn0 : 0 < m) (hsm : m * 2 ≤ 16777216) (hp : parts.toList = ((els.map fun a => Value.agg a.cells.toArray).zipIdx 0).map fun y => (y.2, y.1))
    (hk : ∀ v w1, Ext w w1 → SPoint.Owns w.heap.size w1 v els → w1.heap.size = w.heap.size + 1 → K v w1) : DoV Tryz.prog (Instr.buildSlice 53 m parts) w K X := by
  obtain ⟨i, hi, hz, hs, hby⟩ := Ty.info_parts Ty.SPoint_info
  exact lit_els (c := SPoint.cells) (fun a => Value.agg a.cells.toArray) els Ty.SPoint_row hi hz hs (by decide) SPoint.len (fun _ => rfl) hn hn0 hsm hp hk
theorem SPoint.row_lit0 {w : World} {K : Value → World → Prop} {X : List PanicEntry → World → Prop} (hk : ∀ v w1, Ext w w1 → SPoint.Owns w.heap.size w1 v [] → w1.heap.size = w.heap.size + 1 → K v w1) : DoV Tryz.prog (Instr.buildSlice 53 0 #[]) w K X := by
  obtain ⟨i, hi, hz, hs, hby⟩ := Ty.info_parts Ty.SPoint_info
  exact lit0_e (sz := 2) Ty.SPoint_row hi hk
theorem SPoint.row_of_trod {H : Type} {enc : TypeId × Value → H} {W : World} {fuel : Nat} {v : Value} {x : DataW H × List MemPlace} (h : DataW.trod enc Tryz.prog W 0 (fun _ => true) true fuel 53 [v] = some x) : ∃ l : List SPoint, SPoint.Row W v l ∧ ∀ a ∈ l, a.Ok :=
  trod_list Ty.SPoint_row Ty.SPoint_cells (by decide) h fun _ _ _ hx => SPoint.of_trod hx
end Go.Proofs.YtoeblipchoglaaaGreatDoor
namespace Go.Proofs.YtoeblipchoglaaaGreatDoor
set_option maxRecDepth 100000
namespace Sh
open Go.RowKit
variable {P : Program} {w : World} {K : Value → World → Prop} {X : List PanicEntry → World → Prop}
theorem nd_alloc {t : TypeId} {z : Value} {w0 : World} {rest : Value → (World → Prop) → Prop} (hz : ∀ w, (zeroValue t).run P w = .ok z w)
    (hk : ∀ v, rest v (fun w1 => ∃ b, v = .pointer (some ⟨b, 0, none⟩) ∧ At w1 b (.cells z.cells t (0, 0)) ∧ w0.heap.size ≤ b)) : NdOp Ext Ext w0 (fun w1 K => DoV P (Instr.alloc t true (.tuple #[])) w1 K X) rest := by
  refine ⟨fun v w1 => ∃ b, v = .pointer (some ⟨b, 0, none⟩) ∧ At w1 b (.cells z.cells t (0, 0)) ∧ w0.heap.size ≤ b, ?_, ?_, hk⟩
  · rintro v a b ⟨g, rfl, h1, h2⟩ hx
    exact ⟨g, rfl, h1.ext hx, h2⟩
  · intro w1 h1
    refine alloc_i hz fun b w2 x2 hat hb _ => ?_
    exact ⟨x2, b, rfl, hat, by have := h1.size; omega⟩
def S1 : Nat → World → World → Prop
  | 0 => Ext
  | _ + 1 => fun _ _ => True
theorem drawR1 {w : World} {body : (World → World → Prop) → (Nat → World → World → Prop) → World → Prop} (h : ∀ w0, Ext w w0 → w0.heap.size = w.heap.size → body (Mod (w0.heap.size ≤ ·)) S1 w0) : DrawR w body :=
  ⟨_, _, ⟨fun a => Mod.refl _ a, fun _ _ _ => Mod.trans, fun u a => by match u with | 0 => exact Ext.refl a | _ + 1 => trivial, fun u a b c => by match u with | 0 => exact Ext.trans | _ + 1 => exact fun _ _ => trivial⟩, h w.drew (Ext.drew w) rfl⟩
theorem both1 {N : Nat} {a b : World} (h : Ext a b) : Both (Mod (N ≤ ·)) S1 a b := ⟨.of_ext h, fun u => by match u with | 0 => exact h | _ + 1 => trivial⟩
theorem det_r1 {w0 : World} {op : World → (Value → World → Prop) → Prop} {rest : Value → (World → Prop) → Prop} (c : Value) (h : ∀ w1, Mod (w0.heap.size ≤ ·) w0 w1 → ∀ K : Value → World → Prop, op w1 K = K c w1) (hk : rest c fun _ => True) :
    DetOp (Mod (w0.heap.size ≤ ·)) (Both (Mod (w0.heap.size ≤ ·)) S1) w0 op rest :=
  det_pure c (fun a => both1 (Ext.refl a)) (fun w1 h1 K hk => by rw [h w1 h1 K]; exact hk) hk
theorem nd_last {w0 : World} {Θ : World → Prop} {op : World → (Value → World → Prop) → Prop} {rest : Value → (World → Prop) → Prop} (φ : Value → World → Prop) (hs : ∀ v a b, φ v a → Ext a b → φ v b) (hop : ∀ w1, Mod (w0.heap.size ≤ ·) w0 w1 → Θ w1 → op w1 fun v w2 => Mod (w0.heap.size ≤ ·) w1 w2 ∧ φ v w2) (hk : ∀ v, rest v (φ v)) : NdC (Mod (w0.heap.size ≤ ·)) S1 0 w0 Θ op rest :=
  ⟨φ, hs, fun w1 h1 hΘ => by
    have := hop w1 h1 hΘ
    have e : (fun (v : Value) (w2 : World) => Mod (w0.heap.size ≤ ·) w1 w2 ∧ φ v w2) = fun v w2 => (Mod (w0.heap.size ≤ ·) w1 w2 ∧ ∀ u, u ≠ 0 → S1 u w1 w2) ∧ φ v w2 := by
      funext v w2
      exact propext ⟨fun h => ⟨⟨h.1, fun u hu => by match u, hu with | _ + 1, _ => trivial⟩, h.2⟩, fun h => ⟨h.1.1, h.2⟩⟩
    rw [e] at this
    exact this, hk⟩
theorem thr_1 {w0 : World} {chain : (World → Prop) → (List Value → (World → Prop) → Prop) → Prop} {rest : (List Value → World → Prop) → Prop} (Φ : List Value → World → Prop) (hc : chain (fun _ => True) fun vs Θ => ∀ w1, Mod (w0.heap.size ≤ ·) w0 w1 → Θ w1 → Φ vs w1) (hk : rest Φ) : ThrE (Mod (w0.heap.size ≤ ·)) S1 0 w0 chain rest :=
  ⟨fun _ => True, Φ, trivial, fun _ _ _ _ => trivial, hc, hk⟩
theorem det_read {w0 : World} {op : World → (Value → World → Prop) → Prop} {rest : Value → (World → Prop) → Prop} (c : Value) (h : ∀ w1, Ext w0 w1 → ∀ K : Value → World → Prop, op w1 K = K c w1) (hk : rest c fun _ => True) : DetOp Ext Ext w0 op rest :=
  det_pure c Ext.refl (fun w1 h1 K hk => by rw [h w1 h1 K]; exact hk) hk
theorem rv_nil (w : World) : (rvRun []).run P w = .ok [] w := rfl
theorem rv_tmp {v : Value} {r : List RV} {vs : List Value} (h : (rvRun r).run P w = .ok vs w) : (rvRun (.tmp v :: r)).run P w = .ok (v :: vs) w := by
  simp only [rvRun, Sem.run_bind, h, Result.andThen_ok, Sem.run_pure]
theorem rv_cell {a : Addr} {t : TypeId} {u : Value} {r : List RV} {vs : List Value} (hl : (loadVar t a).run P w = .ok u w) (h : (rvRun r).run P w = .ok vs w) : (rvRun (.cell (.pointer (some a)) t :: r)).run P w = .ok (u :: vs) w := by
  simp [rvRun, asAddr, hl, h]
theorem res_i {rs : List RV} {vs : List Value} {R : Ending → World → Prop} (h : (rvRun rs).run P w = .ok vs w) (hr : R (.returned (single vs)) w) : Res P rs w R := by
  unfold Res
  split
  · rename_i us hu
    have e := rvRun_plain (P := P) w hu
    rw [h] at e
    cases e
    exact hr
  · exact ⟨vs, h, hr⟩
end Sh
open Sh Go.RowKit
variable {w : World} {K : Value → World → Prop} {X : List PanicEntry → World → Prop}
theorem ints_at {v : Value} {l : List Int} (hv : Sl w 1 v l.length (iv l)) {j : Nat} (hj : j < l.length) :
    ∃ p, (∀ (w1 : World) (K : Value → World → Prop) (X : List PanicEntry → World → Prop), DoV Tryz.prog (Instr.indexAt 91 v (.int .i64 j)) w1 K X = K p w1) ∧
      ∀ (w1 : World), Ext w w1 → ∀ (K : Value → World → Prop) (X : List PanicEntry → World → Prop), DoV Tryz.prog (Instr.loadAt 3 p) w1 K X = K (.int .i64 l[j]) w1 := by
  obtain ⟨ii, hii, _, his, _⟩ := Ty.info_parts Ty.int_info
  obtain ⟨b, o, hcell, hb, hix⟩ := hv.index Ty.ints hii his (k := .i64) hj (by decide)
  refine ⟨_, hix, fun w1 h1 K X => ?_⟩
  refine load_cell Ty.int_agg (cell_ext ?_ hb h1)
  rw [Nat.mul_one]
  exact hcell j _ (iv_get hj)
theorem ints_at' {v : Value} {l : List Int} (hv : Sl w 1 v l.length (iv l)) {n u : Int} (j : Nat) (hn : n = (j : Int)) (hu : l[j]? = some u) :
    ∃ p, (∀ (w1 : World) (K : Value → World → Prop) (X : List PanicEntry → World → Prop), DoV Tryz.prog (Instr.indexAt 91 v (.int .i64 n)) w1 K X = K p w1) ∧
      ∀ (w1 : World), Ext w w1 → ∀ (K : Value → World → Prop) (X : List PanicEntry → World → Prop), DoV Tryz.prog (Instr.loadAt 3 p) w1 K X = K (.int .i64 u) w1 := by
  subst hn
  obtain ⟨hj, rfl⟩ := List.getElem?_eq_some_iff.1 hu
  exact ints_at hv hj
theorem int_elem {v : Value} {l : List Int} {w0 : World} (hv : Sl w 1 v l.length (iv l)) (hx : Ext w w0) {n u : Int} (j : Nat) (hn : n = (j : Int)) (hu : l[j]? = some u) {X X' : List PanicEntry → World → Prop} :
    DoV Tryz.prog (Instr.indexAt 91 v (.int .i64 n)) w0 (fun p w1 => DoV Tryz.prog (Instr.loadAt 3 p) w1 K X') X = K (.int .i64 u) w0 := by
  obtain ⟨p, h1, h2⟩ := ints_at' hv j hn hu
  rw [h1, h2 _ hx]
theorem det_elem {v : Value} {l : List Int} {w0 : World} (hv : Sl w 1 v l.length (iv l)) (hx : Ext w w0) {n u : Int} (j : Nat) (hn : n = (j : Int)) (hu : l[j]? = some u) {X X' : List PanicEntry → World → Prop} {rest : Value → Value → (World → Prop) → (World → Prop) → Prop}
    (hk : ∀ p, rest p (.int .i64 u) (fun _ => True) fun _ => True) :
    DetOp Ext Ext w0 (fun w1 K => DoV Tryz.prog (Instr.indexAt 91 v (.int .i64 n)) w1 K X) fun p ψ => DetOp Ext Ext w0 (fun w1 K => DoV Tryz.prog (Instr.loadAt 3 p) w1 K X') fun c ψ' => rest p c ψ ψ' := by
  obtain ⟨p, h1, h2⟩ := ints_at' hv j hn hu
  refine det_read p (fun w1 _ K => h1 w1 K _) ?_
  exact det_read _ (fun w1 h K => h2 w1 (hx.trans h) K _) (hk p)
end Go.Proofs.YtoeblipchoglaaaGreatDoor
namespace Go.Proofs.YtoeblipchoglaaaGreatDoor
set_option maxRecDepth 100000
namespace Sig
def P : Nat := 2147483579
def Q : Nat := 1073741789
def pw (a x : Nat) : Nat := a ^ x % P
def fp (m : Nat) : Nat → Nat → Nat → Nat → Nat
  | 0, o, _, _ => o
  | f + 1, o, a, x => if x = 0 then o else fp m f (if x % 2 = 1 then o * a % m else o) (a * a % m) (x / 2)
theorem pow_half (a x : Nat) : a ^ x = a ^ (x % 2) * (a * a) ^ (x / 2) := by
  have h := Nat.mod_add_div x 2
  conv => lhs; rw [← h]
  rw [Nat.pow_add, Nat.pow_mul, Nat.pow_two]
theorem step_pow (m o a x : Nat) : ((if x % 2 = 1 then o * a % m else o) * (a * a % m) ^ (x / 2)) % m = (o * a ^ x) % m := by
  have e1 : ∀ c k : Nat, (c * (a * a % m) ^ k) % m = (c * (a * a) ^ k) % m := fun c k => by
    rw [Nat.mul_mod, ← Nat.pow_mod, ← Nat.mul_mod]
  rw [e1, pow_half a x]
  by_cases h : x % 2 = 1
  · rw [if_pos h, h, Nat.pow_one, ← Nat.mul_assoc, Nat.mul_mod, Nat.mod_mod, ← Nat.mul_mod]
  · rw [if_neg h, show x % 2 = 0 by omega, Nat.pow_zero, Nat.one_mul]
theorem fp_eq (m : Nat) : ∀ (f o a x : Nat), x < 2 ^ f → o < m → fp m f o a x = o * a ^ x % m
  | 0, o, a, x, hx, ho => by
    have : x = 0 := by simpa using hx
    subst this
    rw [fp, Nat.pow_zero, Nat.mul_one, Nat.mod_eq_of_lt ho]
  | f + 1, o, a, x, hx, ho => by
    rw [fp]
    by_cases h : x = 0
    · subst h; rw [if_pos rfl, Nat.pow_zero, Nat.mul_one, Nat.mod_eq_of_lt ho]
    · have hm : 0 < m := by omega
      rw [if_neg h, fp_eq m f _ _ _ (by rw [Nat.pow_succ] at hx; omega) (by split; exact Nat.mod_lt _ hm; exact ho), step_pow]
theorem pw_fp {a x : Nat} (hx : x < 2147483648) : pw a x = fp P 31 1 a x := by
  rw [fp_eq P 31 1 a x hx (by decide), Nat.one_mul]; rfl
theorem four_Q : pw 4 Q = 1 := by rw [pw_fp (by decide)]; decide +kernel
theorem pw_lt (a x : Nat) : pw a x < P := Nat.mod_lt _ (by decide)
def ch : Nat → Nat → Nat
  | _, 0 => 1
  | 0, _ + 1 => 0
  | n + 1, k + 1 => ch n k + ch n (k + 1)
def bs (n x : Nat) : Nat → Nat
  | 0 => 0
  | k + 1 => bs n x k + ch n k * x ^ k
end Sig
end Go.Proofs.YtoeblipchoglaaaGreatDoor
