/- WRITTEN BY structs.py: flat structs of the program. -/
import Derived.Test.YtdfpdfahcbflpabDoorHBaseC
import Derived.Test.YtdfpdfahcbflpabDoorHBaseB
import Derived.Laws.Small
import Derived.Laws.StructEq
set_option linter.unusedVariables false
set_option linter.unusedSimpArgs false
namespace Go.Proofs.YtdfpdfahcbflpabDoor
open Sh Go.RowKit Go.WideShapes Go.ChangeShapes
set_option maxRecDepth 100000
def eqList (d : Nat) (xs ys : Array Value) : List (TypeId × Nat × Bool) → Sem Bool
  | [] => pure true
  | (t, o, _) :: r => do
    let a ← part t xs o
    let b ← part t ys o
    let e ← Op.equalIn d t a b
    if e then eqList d xs ys r else pure false
theorem eqFlds {P : Program} {w : World} {d : Nat} {xs ys : Array Value} : ∀ {fs : List Field} {l : List (TypeId × Nat × Bool)}, fs.map (fun f => (f.type, f.offset, f.name == "_")) = l → (∀ p ∈ l, p.2.2 = false) → (Op.eqFields d xs ys fs).run P w = (eqList d xs ys l).run P w
  | [], l, h, _ => by simp only [List.map_nil] at h; subst h; simp [Op.eqFields, eqList]
  | f :: fs, l, h, hb => by
    simp only [List.map_cons] at h
    subst h
    have h1 := hb _ (List.mem_cons_self ..)
    simp only at h1
    have ih := fun w => eqFlds (P := P) (w := w) (d := d) (xs := xs) (ys := ys) (fs := fs) rfl fun p hp => hb p (List.mem_cons_of_mem _ hp)
    have h2 : ¬ f.name = "_" := by simpa using h1
    simp only [Op.eqFields, eqList, Sem.run_bind, Sem.run_ite, ne_eq, h2, not_false_eq_true, if_true]
    generalize (part f.type xs f.offset).run P w = r1
    cases r1 with
    | ok a w1 =>
      simp only [Result.andThen_ok]
      generalize (part f.type ys f.offset).run P w1 = r2
      cases r2 with
      | ok b w2 =>
        simp only [Result.andThen_ok]
        generalize (Op.equalIn d f.type a b).run P w2 = r3
        cases r3 with
        | ok r w3 => cases r <;> simp [ih w3]
        | halt x w3 => simp [Result.andThen]
      | halt x w2 => simp [Result.andThen]
    | halt x w1 => simp [Result.andThen]
theorem part_one {P : Program} {t : TypeId} {cs : Array Value} {o : Nat} {v : Value} {w : World} (ht : ∀ w, (isAgg t).run P w = .ok false w) (h : cs[o]? = some v) : (part t cs o).run P w = .ok v w := by
  obtain ⟨hlt, hv⟩ := Array.getElem?_eq_some_iff.1 h
  simp [part, ht, hlt, hv]
theorem eq_int {P : Program} {t : TypeId} {w : World} {d : Nat} {x y : Int} (ht : P.underlying t = some (.int .i64)) : (Op.equalIn (d + 1) t (.int .i64 x) (.int .i64 y)).run P w = .ok (decide (x = y)) w := by
  rw [run_equalIn_int w d t .i64 .i64 x y ht, Bool.beq_eq_decide_eq]
structure Hdr where
  a : Option Addr
  n : Nat
  c : Nat
def Hdr.val (h : Hdr) : Value := .slice h.a h.n h.c
theorem Hdr.val_inj (a b : Hdr) : a.val = b.val ↔ a = b := by
  cases a; cases b; simp [Hdr.val]
theorem Hdr.of_sl {w : World} {sz n : Nat} {v : Value} {xs : List Value} (h : Sl w sz v n xs) : ∃ d : Hdr, v = d.val := by
  obtain ⟨a, c, rfl, _⟩ := h
  exact ⟨⟨a, n, c⟩, rfl⟩
def Has (w : World) (b o : Nat) (cs : List Value) : Prop := ∀ j u, cs[j]? = some u → w.cell? ⟨b, o + j, none⟩ = some u
theorem has_of_at {w : World} {b : Nat} {cs : List Value} {e : TypeId} {f : Nat × Nat} (h : At w b (.cells cs.toArray e f)) : Has w b 0 cs := fun j u hu => by rw [h.cell, Nat.zero_add]; simpa using hu
theorem Has.ext {w w' : World} {b o : Nat} {cs : List Value} (h : Has w b o cs) (hb : b < w.heap.size) (he : Ext w w') : Has w' b o cs := fun j u hu => cell_ext (h j u hu) hb he
theorem has_at {w : World} {b o d o' : Nat} {cs : List Value} {u : Value} (h : Has w b o cs) (ho : o' = o + d) (hu : cs[d]? = some u) : w.cell? ⟨b, o', none⟩ = some u := by subst ho; exact h d u hu
theorem has_part {w : World} {b o d n o' j : Nat} {cs xs : List Value} {u : Value} (h : Has w b o cs) (ho : o' = o + d) (hx : (cs.drop d).take n = xs) (hu : xs[j]? = some u) : w.cell? ⟨b, o' + j, none⟩ = some u := by
  subst ho; subst hx
  rw [List.getElem?_take] at hu
  split at hu
  · rw [List.getElem?_drop] at hu
    rw [Nat.add_assoc]; exact h _ _ hu
  · cases hu
theorem eqList_nil {P : Program} {d : Nat} {xs ys : Array Value} : ∀ w, (eqList d xs ys []).run P w = .ok true w := fun w => by simp [eqList]
theorem eqList_cons {P : Program} {d : Nat} {xs ys : Array Value} {t : TypeId} {o : Nat} {q : Bool} {r : List (TypeId × Nat × Bool)} {x y : Value} {b c : Bool} (hx : ∀ w, (part t xs o).run P w = .ok x w) (hy : ∀ w, (part t ys o).run P w = .ok y w) (he : ∀ w, (Op.equalIn d t x y).run P w = .ok b w)
    (hr : ∀ w, (eqList d xs ys r).run P w = .ok c w) : ∀ w, (eqList d xs ys ((t, o, q) :: r)).run P w = .ok (b && c) w := fun w => by
  simp only [eqList, Sem.run_bind, hx, hy, he, Result.andThen_ok]
  cases b <;> simp [hr]
theorem trod_fld {P : Program} {H : Type} {enc : TypeId × Value → H} {W : World} {T : TypeId} {fuel : Nat} {cs : List Value} {x : DataW H × List MemPlace} {l : List (TypeId × Nat × Bool)} (hu : P.underlying T = some (.struct (P.fieldsOf T))) (hfl : (P.fieldsOf T).toList.map (fun f => (f.type, f.offset, f.name == "_")) = l)
    (h : DataW.trod enc P W 0 (fun _ => true) true fuel T cs = some x) {i : Nat} {t : TypeId} {o : Nat} {q : Bool} (hi : l[i]? = some (t, o, q)) : ∃ m y, DataW.trod enc P W 0 (fun _ => true) true m t ((cs.drop o).take (P.cellsOf t)) = some y := by
  obtain ⟨xs, n, _, _, _, hlen, hf⟩ := DataW.trod_struct hu h
  subst hfl
  rw [List.getElem?_map] at hi
  cases hg : (P.fieldsOf T).toList[i]? with
  | none => rw [hg] at hi; cases hi
  | some f =>
    rw [hg] at hi
    simp only [Option.map_some, Option.some.injEq, Prod.mk.injEq] at hi
    obtain ⟨rfl, rfl, _⟩ := hi
    have hlt : i < (P.fieldsOf T).size := by have := (List.getElem?_eq_some_iff.1 hg).1; simpa using this
    refine ⟨n, xs[i]'(by omega), ?_⟩
    rw [hf i f (by simpa using hg)]
    exact List.getElem?_eq_getElem _
theorem leaf_int {P : Program} {H : Type} {enc : TypeId × Value → H} {W : World} {t : TypeId} {fuel : Nat} {cs : List Value} {x : DataW H × List MemPlace} (ht : P.underlying t = some (.int .i64)) (h : DataW.trod enc P W 0 (fun _ => true) true fuel t cs = some x) : ∃ a : Int, cs = [.int .i64 a] ∧ I64 a := by
  obtain ⟨z, h1, _, h2⟩ := DataW.trod_int ht h
  refine ⟨z, h1, ?_⟩
  unfold I64
  simpa [Lit.wf, IntKind.min, IntKind.max, IntKind.signed, IntKind.bits] using h2
theorem leaf_bool {P : Program} {H : Type} {enc : TypeId × Value → H} {W : World} {t : TypeId} {fuel : Nat} {cs : List Value} {x : DataW H × List MemPlace} (ht : P.underlying t = some .bool) (h : DataW.trod enc P W 0 (fun _ => true) true fuel t cs = some x) : ∃ a : Bool, cs = [.bool a] ∧ True := by
  obtain ⟨z, h1, _⟩ := DataW.trod_bool ht h
  exact ⟨z, h1, trivial⟩
end Go.Proofs.YtdfpdfahcbflpabDoor
namespace Go.Proofs.YtdfpdfahcbflpabDoor
open Sh Go.RowKit Go.WideShapes Go.ChangeShapes
set_option maxRecDepth 100000
structure SSig where
  e : Int
  s : Int
deriving DecidableEq
instance : Inhabited SSig := ⟨⟨0, 0⟩⟩
namespace Ty
end Ty
end Go.Proofs.YtdfpdfahcbflpabDoor
namespace Go.Proofs.YtdfpdfahcbflpabDoor
open Sh Go.RowKit Go.WideShapes Go.ChangeShapes
set_option maxRecDepth 100000
structure SSpan where
  lo : Int
  hi : Int
deriving DecidableEq
instance : Inhabited SSpan := ⟨⟨0, 0⟩⟩
def SSpan.cells (s : SSpan) : List Value := [.int .i64 s.lo] ++ [.int .i64 s.hi]
def SSpan.Ok (s : SSpan) : Prop := I64 s.lo ∧ I64 s.hi
namespace Ty
theorem SSpan_und : Tryd.prog.underlying 72 = some (.struct (Tryd.prog.fieldsOf 72)) := by kernel_rfl
theorem SSpan_cells : Tryd.prog.cellsOf 72 = 2 := by kernel_rfl
theorem SSpan_f0_run (w : World) (b o : Nat) : (Instr.fieldAt 72 (.pointer (some ⟨b, o, none⟩)) 0).run Tryd.prog w = .ok (.pointer (some ⟨b, o, none⟩)) w := by kernel_rfl
theorem SSpan_f0 {b o : Nat} {w : World} {K : Value → World → Prop} {X : List PanicEntry → World → Prop} : DoV Tryd.prog (Instr.fieldAt 72 (.pointer (some ⟨b, o, none⟩)) 0) w K X = K (.pointer (some ⟨b, o, none⟩)) w := DoV_ok (SSpan_f0_run w b o)
theorem SSpan_f1_run (w : World) (b o : Nat) : (Instr.fieldAt 72 (.pointer (some ⟨b, o, none⟩)) 1).run Tryd.prog w = .ok (.pointer (some ⟨b, o + 1, none⟩)) w := by kernel_rfl
theorem SSpan_f1 {b o : Nat} {w : World} {K : Value → World → Prop} {X : List PanicEntry → World → Prop} : DoV Tryd.prog (Instr.fieldAt 72 (.pointer (some ⟨b, o, none⟩)) 1) w K X = K (.pointer (some ⟨b, o + 1, none⟩)) w := DoV_ok (SSpan_f1_run w b o)
theorem SSpan_flds : (Tryd.prog.fieldsOf 72).toList.map (fun f => (f.type, f.offset, f.name == "_")) = [(3, 0, false), (3, 1, false)] := by kernel_rfl
end Ty
theorem SSpan.of_trod {H : Type} {enc : TypeId × Value → H} {W : World} {fuel : Nat} {cs : List Value} {x : DataW H × List MemPlace} (h : DataW.trod enc Tryd.prog W 0 (fun _ => true) true fuel 72 cs = some x) : ∃ a : SSpan, cs = a.cells ∧ a.Ok := by
  have hcs : cs.length = 2 := by
    obtain ⟨_, _, _, _, hl, _⟩ := DataW.trod_struct Ty.SSpan_und h
    rw [hl]; exact Ty.SSpan_cells
  obtain ⟨m0, y0, g0⟩ := trod_fld Ty.SSpan_und Ty.SSpan_flds h (i := 0) rfl
  rw [Ty.int_cells] at g0
  obtain ⟨m1, y1, g1⟩ := trod_fld Ty.SSpan_und Ty.SSpan_flds h (i := 1) rfl
  rw [Ty.int_cells] at g1
  match cs, hcs with
  | [u0, u1], _ =>
    have g0 : DataW.trod enc Tryd.prog W 0 (fun _ => true) true m0 3 [u0] = some y0 := g0
    obtain ⟨a0, c0, k0⟩ := leaf_int Ty.int g0
    have g1 : DataW.trod enc Tryd.prog W 0 (fun _ => true) true m1 3 [u1] = some y1 := g1
    obtain ⟨a1, c1, k1⟩ := leaf_int Ty.int g1
    refine ⟨⟨a0, a1⟩, ?_, k0, k1⟩
    show [u0] ++ [u1] = [.int .i64 a0] ++ [.int .i64 a1]
    rw [c0, c1]
structure SEntry where
  seq : Int
  time : Int
  kind : Int
  sensor : Int
  ref : Int
  a : Int
  n : Int
  value : SSpan
  temp : Int
  age : Int
  since : Int
deriving DecidableEq
instance : Inhabited SEntry := ⟨⟨0, 0, 0, 0, 0, 0, 0, ⟨0, 0⟩, 0, 0, 0⟩⟩
namespace Ty
end Ty
structure SRecord where
  kind : Int
  entry : SEntry
  seq : Int
  chain : BitVec 64
deriving DecidableEq
instance : Inhabited SRecord := ⟨⟨0, ⟨0, 0, 0, 0, 0, 0, 0, ⟨0, 0⟩, 0, 0, 0⟩, 0, 0⟩⟩
namespace Ty
end Ty
end Go.Proofs.YtdfpdfahcbflpabDoor
namespace Go.Proofs.YtdfpdfahcbflpabDoor
open Sh Go.RowKit Go.WideShapes Go.ChangeShapes
set_option maxRecDepth 100000
structure SPoint where
  x : Int
  y : Int
deriving DecidableEq
instance : Inhabited SPoint := ⟨⟨0, 0⟩⟩
def SPoint.cells (s : SPoint) : List Value := [.int .i64 s.x] ++ [.int .i64 s.y]
theorem SPoint.cells_eq (s : SPoint) : s.cells = [.int .i64 s.x, .int .i64 s.y] := rfl
theorem SPoint.len (s : SPoint) : s.cells.length = 2 := rfl
theorem SPoint.one (s : SPoint) : ∀ u ∈ s.cells, u.oneCell' = true := by
  intro u hu
  rw [SPoint.cells_eq] at hu
  simp only [List.mem_cons, List.not_mem_nil, or_false] at hu
  rcases hu with rfl | rfl <;> rfl
theorem SPoint.inj (a b : SPoint) (h : a.cells = b.cells) : a = b := by
  rw [SPoint.cells_eq, SPoint.cells_eq] at h
  simp only [List.cons.injEq, and_true, Value.int.injEq, Value.bool.injEq, u64v, true_and] at h
  obtain ⟨h0, h1⟩ := h
  obtain ⟨_, _⟩ := a
  obtain ⟨_, _⟩ := b
  simp only at h0 h1
  subst h0 h1
  rfl
def SPoint.Ok (s : SPoint) : Prop := I64 s.x ∧ I64 s.y
def SPoint.zero : SPoint := ⟨0, 0⟩
namespace Ty
theorem SPoint_und : Tryd.prog.underlying 31 = some (.struct (Tryd.prog.fieldsOf 31)) := by kernel_rfl
theorem SPoint_agg (w : World) : (isAgg 31).run Tryd.prog w = .ok true w := by kernel_rfl
theorem SPoint_size (w : World) : (sizeOf 31).run Tryd.prog w = .ok 2 w := by kernel_rfl
theorem SPoint_zero (w : World) : (zeroValue 31).run Tryd.prog w = .ok (.agg SPoint.zero.cells.toArray) w := by kernel_rfl
theorem SPoint_cells : Tryd.prog.cellsOf 31 = 2 := by kernel_rfl
theorem SPoint_info : (Tryd.prog.info? 31).map (fun i => (i.zero, i.size, i.bytes)) = some (some (.agg SPoint.zero.cells.toArray), 2, 16) := by kernel_rfl
theorem SPoint_f0_run (w : World) (b o : Nat) : (Instr.fieldAt 31 (.pointer (some ⟨b, o, none⟩)) 0).run Tryd.prog w = .ok (.pointer (some ⟨b, o, none⟩)) w := by kernel_rfl
theorem SPoint_f0 {b o : Nat} {w : World} {K : Value → World → Prop} {X : List PanicEntry → World → Prop} : DoV Tryd.prog (Instr.fieldAt 31 (.pointer (some ⟨b, o, none⟩)) 0) w K X = K (.pointer (some ⟨b, o, none⟩)) w := DoV_ok (SPoint_f0_run w b o)
theorem SPoint_f1_run (w : World) (b o : Nat) : (Instr.fieldAt 31 (.pointer (some ⟨b, o, none⟩)) 1).run Tryd.prog w = .ok (.pointer (some ⟨b, o + 1, none⟩)) w := by kernel_rfl
theorem SPoint_f1 {b o : Nat} {w : World} {K : Value → World → Prop} {X : List PanicEntry → World → Prop} : DoV Tryd.prog (Instr.fieldAt 31 (.pointer (some ⟨b, o, none⟩)) 1) w K X = K (.pointer (some ⟨b, o + 1, none⟩)) w := DoV_ok (SPoint_f1_run w b o)
theorem SPoint_flds : (Tryd.prog.fieldsOf 31).toList.map (fun f => (f.type, f.offset, f.name == "_")) = [(3, 0, false), (3, 1, false)] := by kernel_rfl
theorem SPoint_stood : Tryd.prog.stoodInHeld 31 = false := by kernel_rfl
theorem SPoint_guard (w : World) (op : BinOp) (ox oy : Operand) (x y : Array Value) : (eqGuard op 31 ox oy (.agg x) (.agg y)).run Tryd.prog w = .ok () w := run_eqGuard_agg w op 31 ox oy x y (by kernel_rfl)
end Ty
theorem SPoint.eq_run (d : Nat) (w : World) (a b : SPoint) : (Op.equalIn (d + 3) 31 (.agg a.cells.toArray) (.agg b.cells.toArray)).run Tryd.prog w = .ok (decide (a = b)) w := by
  rw [show d + 3 = (d + 2) + 1 from rfl, run_equalIn_agg w (d + 2) _ _ _ Ty.SPoint_und Ty.SPoint_stood]
  rw [eqFlds Ty.SPoint_flds (by decide)]
  have p0 : ∀ (c : SPoint) (w : World), (part 3 c.cells.toArray 0).run Tryd.prog w = .ok (.int .i64 c.x) w := fun c w => part_one Ty.int_agg rfl
  have q0 : ∀ (w : World), (Op.equalIn (d + 2) 3 (.int .i64 a.x) (.int .i64 b.x)).run Tryd.prog w = .ok (decide (a.x = b.x)) w := fun w => eq_int Ty.int
  have p1 : ∀ (c : SPoint) (w : World), (part 3 c.cells.toArray 1).run Tryd.prog w = .ok (.int .i64 c.y) w := fun c w => part_one Ty.int_agg rfl
  have q1 : ∀ (w : World), (Op.equalIn (d + 2) 3 (.int .i64 a.y) (.int .i64 b.y)).run Tryd.prog w = .ok (decide (a.y = b.y)) w := fun w => eq_int Ty.int
  have e : (a = b) ↔ (a.x = b.x ∧ a.y = b.y) := by
    constructor
    · rintro rfl; simp
    · rintro ⟨h0, h1⟩
      cases a; cases b; simp only at h0 h1; subst h0 h1; rfl
  rw [eqList_cons (p0 a) (p0 b) q0 (eqList_cons (p1 a) (p1 b) q1 eqList_nil) w]
  congr 1
  rw [Bool.eq_iff_iff]
  simp only [Bool.and_eq_true, decide_eq_true_eq, and_true, e]
theorem SPoint.eql {w : World} {K : Value → World → Prop} {X : List PanicEntry → World → Prop} {ox oy : Operand} {a b : SPoint} : DoV Tryd.prog (binS .eql 31 ox oy (.agg a.cells.toArray) (.agg b.cells.toArray)) w K X = K (.bool (decide (a = b))) w := by
  refine DoV_ok ?_
  have e := SPoint.eq_run 9997 w a b
  simp only [binS, Sem.run_bind, Ty.SPoint_guard, Result.andThen_ok, run_eql_struct]
  rw [e]; rfl
theorem SPoint.neq {w : World} {K : Value → World → Prop} {X : List PanicEntry → World → Prop} {ox oy : Operand} {a b : SPoint} : DoV Tryd.prog (binS .neq 31 ox oy (.agg a.cells.toArray) (.agg b.cells.toArray)) w K X = K (.bool (!decide (a = b))) w := by
  refine DoV_ok ?_
  have e := SPoint.eq_run 9997 w a b
  simp only [binS, Sem.run_bind, Ty.SPoint_guard, Result.andThen_ok, run_neq_struct]
  rw [e]; rfl
theorem SPoint.of_trod {H : Type} {enc : TypeId × Value → H} {W : World} {fuel : Nat} {cs : List Value} {x : DataW H × List MemPlace} (h : DataW.trod enc Tryd.prog W 0 (fun _ => true) true fuel 31 cs = some x) : ∃ a : SPoint, cs = a.cells ∧ a.Ok := by
  have hcs : cs.length = 2 := by
    obtain ⟨_, _, _, _, hl, _⟩ := DataW.trod_struct Ty.SPoint_und h
    rw [hl]; exact Ty.SPoint_cells
  obtain ⟨m0, y0, g0⟩ := trod_fld Ty.SPoint_und Ty.SPoint_flds h (i := 0) rfl
  rw [Ty.int_cells] at g0
  obtain ⟨m1, y1, g1⟩ := trod_fld Ty.SPoint_und Ty.SPoint_flds h (i := 1) rfl
  rw [Ty.int_cells] at g1
  match cs, hcs with
  | [u0, u1], _ =>
    have g0 : DataW.trod enc Tryd.prog W 0 (fun _ => true) true m0 3 [u0] = some y0 := g0
    obtain ⟨a0, c0, k0⟩ := leaf_int Ty.int g0
    have g1 : DataW.trod enc Tryd.prog W 0 (fun _ => true) true m1 3 [u1] = some y1 := g1
    obtain ⟨a1, c1, k1⟩ := leaf_int Ty.int g1
    refine ⟨⟨a0, a1⟩, ?_, k0, k1⟩
    show [u0] ++ [u1] = [.int .i64 a0] ++ [.int .i64 a1]
    rw [c0, c1]
theorem SPoint.g_x {s : SPoint} {b o : Nat} {w : World} {K : Value → World → Prop} {X0 X1 : List PanicEntry → World → Prop} (h : Has w b o s.cells) : DoV Tryd.prog (Instr.fieldAt 31 (.pointer (some ⟨b, o, none⟩)) 0) w (fun a1 w1 => DoV Tryd.prog (Instr.loadAt 3 a1) w1 K X0) X1 = K (.int .i64 s.x) w := by
  rw [Ty.SPoint_f0, load_cell Ty.int_agg (has_at h (d := 0) (by omega) rfl)]
theorem SPoint.g_y {s : SPoint} {b o : Nat} {w : World} {K : Value → World → Prop} {X0 X1 : List PanicEntry → World → Prop} (h : Has w b o s.cells) : DoV Tryd.prog (Instr.fieldAt 31 (.pointer (some ⟨b, o, none⟩)) 1) w (fun a1 w1 => DoV Tryd.prog (Instr.loadAt 3 a1) w1 K X0) X1 = K (.int .i64 s.y) w := by
  rw [Ty.SPoint_f1, load_cell Ty.int_agg (has_at h (d := 1) (by omega) rfl)]
theorem SPoint.g_all {s : SPoint} {b o : Nat} {w : World} {K : Value → World → Prop} {X : List PanicEntry → World → Prop} (h : Has w b o s.cells) : DoV Tryd.prog (Instr.loadAt 31 (.pointer (some ⟨b, o, none⟩))) w K X = K (.agg s.cells.toArray) w := load_arr (n := 2) (xs := s.cells) Ty.SPoint_agg Ty.SPoint_size rfl h
theorem SPoint.set {s r : SPoint} {b : Nat} {e : TypeId} {w : World} {K : Value → World → Prop} {X : List PanicEntry → World → Prop} (h : At w b (.cells r.cells.toArray e (0, 0))) (hk : ∀ w1, Mod (· = b) w w1 → At w1 b (.cells s.cells.toArray e (0, 0)) → w1.heap.size = w.heap.size → K undef w1) : DoU Tryd.prog (Instr.storeAt 31 (.pointer (some ⟨b, 0, none⟩)) (.agg s.cells.toArray)) w K X := store_all (n := 2) Ty.SPoint_size h rfl rfl (by intro u hu; exact SPoint.one s u hu) hk
structure SLog where
  veh : Int
  start : Hdr
  ents : Hdr
instance : Inhabited SLog := ⟨⟨0, ⟨none, 0, 0⟩, ⟨none, 0, 0⟩⟩⟩
namespace Ty
end Ty
structure SReport where
  veh : Int
  first : Int
  ents : Hdr
  before : BitVec 64
  chain : BitVec 64
  sig : SSig
instance : Inhabited SReport := ⟨⟨0, 0, ⟨none, 0, 0⟩, 0, 0, ⟨0, 0⟩⟩⟩
namespace Ty
end Ty
end Go.Proofs.YtdfpdfahcbflpabDoor
namespace Go.Proofs.YtdfpdfahcbflpabDoor
set_option maxRecDepth 100000
namespace Sh
open Go.RowKit
variable {P : Program} {w w' : World} {K : Value → World → Prop} {X : List PanicEntry → World → Prop}
theorem Own.of_at {base g sz n : Nat} {e : TypeId} {xs : List Value} (h : At w g (.cells xs.toArray e (0, 0))) (hb : base ≤ g) (hn : n ≤ maxLen) (hl : xs.length = n * sz) : w.ownsRow base e sz (.slice (some ⟨g, 0, none⟩) n n) n xs :=
  ⟨hl, .inr ⟨g, n, _, rfl, hb, h, Nat.le_refl _, hn, by simpa using hl, by simp [← hl]⟩⟩
theorem lit_els {α : Type} {c : α → List Value} {T e : TypeId} {i : TypeInfo} {z : Value} {sz n : Nat} {parts : Array (Nat × Value)} (x : α → Value) (ls : List α) (hT : P.underlying T = some (.slice e)) (hi : P.info? e = some i) (hz : i.zero = some z)
    (hsz : i.size = sz) (hpos : 0 < sz) (hc : ∀ a, (c a).length = sz) (hx : ∀ a, (x a).cells = (c a).toArray) (hn : ls.length = n) (hn0 : 0 < n) (hsm : n * sz ≤ 16777216)
    (hp : parts.toList = ((ls.map x).zipIdx 0).map fun y => (y.2, y.1))
    (hk : ∀ v w1, Ext w w1 → w1.ownsRow w.heap.size e sz v ls.length (fl c ls) → w1.heap.size = w.heap.size + 1 → K v w1) : DoV P (Instr.buildSlice T n parts) w K X := by
  have hn1 : n ≤ 16777216 := Nat.le_trans (Nat.le_mul_of_pos_right n hpos) hsm
  have hfl : (fl c ls).length = n * sz := by rw [fl_length hc, hn]
  have e1 := run_buildSlice (P := P) w T e n parts (fl c ls).toArray i z hT hi hz (by rw [hsz]; omega) (by rw [hsz]; exact Nat.ne_of_gt (Nat.mul_pos hn0 hpos)) (by
    obtain ⟨r, hr, hsz2, hkk⟩ := Great.fill_dense (s := i.size) (by omega) (ls.map x) 0 ((Array.range (n * i.size)).map (z.cells[· % z.cells.size]!)) (fun v hv => by obtain ⟨a, _, rfl⟩ := List.mem_map.1 hv; rw [hx, hsz]; simpa using hc a) (by simp [hn])
    rw [hp, hr]
    congr 1
    apply Array.ext_getElem?
    intro k
    rw [hkk k]
    by_cases hlt : k < n * sz
    · rw [if_pos (by rw [List.length_map, hn, hsz, Nat.zero_add]; omega), hsz, Nat.sub_zero]
      have hd : k / sz < ls.length := by rw [hn, Nat.div_lt_iff_lt_mul hpos]; exact hlt
      rw [List.getElem?_map, List.getElem?_eq_getElem hd, Option.map_some, Option.bind_some, hx]
      have hm : k % sz < (c ls[k / sz]).length := by rw [hc]; exact Nat.mod_lt _ hpos
      have hg := fl_get hc (l := ls) (k := k / sz) (j := k % sz) hd (List.getElem?_eq_getElem hm)
      rw [Nat.mul_comm, Nat.div_add_mod] at hg
      simp only [List.getElem?_toArray]
      rw [hg, List.getElem?_eq_getElem hm]
    · rw [if_neg (by rw [List.length_map, hn, hsz, Nat.zero_add]; omega)]
      rw [Array.getElem?_eq_none (by simp [hsz]; omega), Array.getElem?_eq_none (by simp [hfl]; omega)])
  rw [DoV_ok e1]
  refine hk _ _ (Ext.alloc _ _) ?_ (by simp)
  rw [hn]
  exact Own.of_at (by unfold At; exact heap_alloc_new w _) (Nat.le_refl _) (by simp only [maxLen]; omega) hfl
theorem lit0_e {T e : TypeId} {i : TypeInfo} {sz : Nat} (hT : P.underlying T = some (.slice e)) (hi : P.info? e = some i)
    (hk : ∀ v w1, Ext w w1 → w1.ownsRow w.heap.size e sz v 0 [] → w1.heap.size = w.heap.size + 1 → K v w1) : DoV P (Instr.buildSlice T 0 #[]) w K X := by
  have e1 : (Instr.buildSlice T 0 #[]).run P w = .ok (.slice (some ⟨w.heap.size, 0, none⟩) 0 0) (w.alloc (.cells #[] e)) := by
    simp [Instr.buildSlice, run_underlying hT, sizeOf, typeInfo, hi, Instr.fill, newRow, newObj, Sem.run]
    rw [show Array.range 0 = #[] by decide]; simp
  rw [DoV_ok e1]
  refine hk _ _ (Ext.alloc _ _) ⟨by simp, .inr ⟨w.heap.size, 0, #[], rfl, Nat.le_refl _, heap_alloc_new w _, Nat.le_refl _, Nat.zero_le _, by simp, by simp⟩⟩ (by simp)
theorem app_els {α : Type} {c : α → List Value} {base : Nat} {T e : TypeId} {ty : TypeId} {cs : Array Bool} {i : TypeInfo} {z : Value} {sz bytes : Nat} (hT : P.underlying T = some (.slice e)) (hi : P.info? e = some i) (hz : i.zero = some z)
    (hsz : i.size = sz) (hby : i.bytes = bytes) (hzs : z.cells.size = sz) (hpos : 0 < sz) (h1 : ∀ a, ∀ u ∈ c a, u.oneCell' = true)
    {v x : Value} {l m : List α} (hown : w.ownsRow base e sz v l.length (fl c l)) (hx : Sl w sz x m.length (fl c m)) (hb : (l.length + m.length) * bytes ≤ 140737488355328) (h63 : l.length + m.length ≤ 140737488355328) (hbase : base ≤ w.heap.size)
    (hk : ∀ v' w1, w1.ownsRow base e sz v' (l ++ m).length (fl c (l ++ m)) → Mod (fun k => v.ownBlock = some k) w w1 → K v' w1) :
    CallB P .append #[T, T] ty cs #[v, x] w K X := by
  refine app_own hT hi hz hsz hby hzs hpos hown hx (fl_one h1 m) hb h63 hbase fun v' w2 h2 hm _ => ?_
  refine hk v' w2 ?_ hm
  rw [fl_append, List.length_append]; exact h2
end Sh
end Go.Proofs.YtdfpdfahcbflpabDoor
namespace Go.Proofs.YtdfpdfahcbflpabDoor
open Sh Go.RowKit Go.WideShapes Go.ChangeShapes
set_option maxRecDepth 100000
set_option maxHeartbeats 2000000
end Go.Proofs.YtdfpdfahcbflpabDoor
namespace Go.Proofs.YtdfpdfahcbflpabDoor
open Sh Go.RowKit Go.WideShapes Go.ChangeShapes
set_option maxRecDepth 100000
set_option maxHeartbeats 2000000
theorem Ty.SPoint_row : Tryd.prog.underlying 37 = some (.slice 31) := by kernel_rfl
abbrev SPoint.Row (w : World) (v : Value) (l : List SPoint) : Prop := Sl w 2 v l.length (fl SPoint.cells l)
abbrev SPoint.Owns (base : Nat) (w : World) (v : Value) (l : List SPoint) : Prop := w.ownsRow base 31 2 v l.length (fl SPoint.cells l)
theorem SPoint.row_nil (w : World) : SPoint.Row w (.slice none 0 0) [] := Sl.nil _ _
theorem SPoint.owns_nil (base : Nat) (w : World) : SPoint.Owns base w (.slice none 0 0) [] := Own.nil _ _ _ _
theorem SPoint.row_len {w : World} {K : Value → World → Prop} {X : List PanicEntry → World → Prop} {cs : Array Bool} {v : Value} {l : List SPoint} (h : SPoint.Row w v l) : CallB Tryd.prog .len #[37] 3 cs #[v] w K X = K (.int .i64 l.length) w := h.len Ty.SPoint_row
theorem SPoint.row_at {w : World} {v : Value} {l : List SPoint} (h : SPoint.Row w v l) {j : Nat} (hj : j < l.length) : ∃ b o, (∀ w1, Ext w w1 → Has w1 b o l[j].cells) ∧ b < w.heap.size ∧
    ∀ (w1 : World) (K : Value → World → Prop) (X : List PanicEntry → World → Prop), DoV Tryd.prog (Instr.indexAt 37 v (.int .i64 j)) w1 K X = K (.pointer (some ⟨b, o, none⟩)) w1 := by
  obtain ⟨i, hi, hz, hs, hby⟩ := Ty.info_parts Ty.SPoint_info
  obtain ⟨b, o, h1, h2, h3⟩ := Sl.el (c := SPoint.cells) (sz := 2) SPoint.len h Ty.SPoint_row hi hs (k := .i64) hj (by decide)
  have h1 : Has w b o l[j].cells := h1
  exact ⟨b, o, fun w1 x1 => h1.ext h2 x1, h2, h3⟩
theorem SPoint.row_apps {w : World} {K : Value → World → Prop} {X : List PanicEntry → World → Prop} {base : Nat} {cs : Array Bool} {v x : Value} {l m : List SPoint} (hown : SPoint.Owns base w v l) (hx : SPoint.Row w x m) (hl : l.length + m.length < 100000000000) (hb : base ≤ w.heap.size) (hk : ∀ v' w1, SPoint.Owns base w1 v' (l ++ m) → Mod (fun k => v.ownBlock = some k) w w1 → K v' w1) :
    CallB Tryd.prog .append #[37, 37] 37 cs #[v, x] w K X := by
  obtain ⟨i, hi, hz, hs, hby⟩ := Ty.info_parts Ty.SPoint_info
  exact app_els (c := SPoint.cells) Ty.SPoint_row hi hz hs hby rfl (by decide) SPoint.one hown hx (by omega) (by omega) hb hk
theorem SPoint.row_lit {w : World} {K : Value → World → Prop} {X : List PanicEntry → World → Prop} {m : Nat} {parts : Array (Nat × Value)} (els : List SPoint) (hn : els.length = m) (hn0 : 0 < m) (hsm : m * 2 ≤ 16777216) (hp : parts.toList = ((els.map fun a => Value.agg a.cells.toArray).zipIdx 0).map fun y => (y.2, y.1))
    (hk : ∀ v w1, Ext w w1 → SPoint.Owns w.heap.size w1 v els → w1.heap.size = w.heap.size + 1 → K v w1) : DoV Tryd.prog (Instr.buildSlice 37 m parts) w K X := by
  obtain ⟨i, hi, hz, hs, hby⟩ := Ty.info_parts Ty.SPoint_info
  exact lit_els (c := SPoint.cells) (fun a => Value.agg a.cells.toArray) els Ty.SPoint_row hi hz hs (by decide) SPoint.len (fun _ => rfl) hn hn0 hsm hp hk
theorem SPoint.row_lit0 {w : World} {K : Value → World → Prop} {X : List PanicEntry → World → Prop} (hk : ∀ v w1, Ext w w1 → SPoint.Owns w.heap.size w1 v [] → w1.heap.size = w.heap.size + 1 → K v w1) : DoV Tryd.prog (Instr.buildSlice 37 0 #[]) w K X := by
  obtain ⟨i, hi, hz, hs, hby⟩ := Ty.info_parts Ty.SPoint_info
  exact lit0_e (sz := 2) Ty.SPoint_row hi hk
theorem SPoint.row_of_trod {H : Type} {enc : TypeId × Value → H} {W : World} {fuel : Nat} {v : Value} {x : DataW H × List MemPlace} (h : DataW.trod enc Tryd.prog W 0 (fun _ => true) true fuel 37 [v] = some x) : ∃ l : List SPoint, SPoint.Row W v l ∧ ∀ a ∈ l, a.Ok :=
  trod_list Ty.SPoint_row Ty.SPoint_cells (by decide) h fun _ _ _ hx => SPoint.of_trod hx
end Go.Proofs.YtdfpdfahcbflpabDoor
namespace Go.Proofs.YtdfpdfahcbflpabDoor
set_option maxRecDepth 100000
namespace Sh
open Go.RowKit
variable {P : Program} {w : World} {K : Value → World → Prop} {X : List PanicEntry → World → Prop}
def S1 : Nat → World → World → Prop
  | 0 => Ext
  | _ + 1 => fun _ _ => True
theorem det_read {w0 : World} {op : World → (Value → World → Prop) → Prop} {rest : Value → (World → Prop) → Prop} (c : Value) (h : ∀ w1, Ext w0 w1 → ∀ K : Value → World → Prop, op w1 K = K c w1) (hk : rest c fun _ => True) : DetOp Ext Ext w0 op rest :=
  det_pure c Ext.refl (fun w1 h1 K hk => by rw [h w1 h1 K]; exact hk) hk
theorem rv_nil (w : World) : (rvRun []).run P w = .ok [] w := rfl
theorem rv_tmp {v : Value} {r : List RV} {vs : List Value} (h : (rvRun r).run P w = .ok vs w) : (rvRun (.tmp v :: r)).run P w = .ok (v :: vs) w := by
  simp only [rvRun, Sem.run_bind, h, Result.andThen_ok, Sem.run_pure]
theorem rv_cell {a : Addr} {t : TypeId} {u : Value} {r : List RV} {vs : List Value} (hl : (loadVar t a).run P w = .ok u w) (h : (rvRun r).run P w = .ok vs w) : (rvRun (.cell (.pointer (some a)) t :: r)).run P w = .ok (u :: vs) w := by
  simp [rvRun, asAddr, hl, h]
theorem res_i {rs : List RV} {vs : List Value} {R : Ending → World → Prop} (h : (rvRun rs).run P w = .ok vs w) (hr : R (.returned (single vs)) w) : Res P rs w R := by
  unfold Res
  split
  · rename_i us hu
    have e := rvRun_plain (P := P) w hu
    rw [h] at e
    cases e
    exact hr
  · exact ⟨vs, h, hr⟩
end Sh
open Sh Go.RowKit
variable {w : World} {K : Value → World → Prop} {X : List PanicEntry → World → Prop}
end Go.Proofs.YtdfpdfahcbflpabDoor
namespace Go.Proofs.YtdfpdfahcbflpabDoor
set_option maxRecDepth 100000
namespace Sig
def P : Nat := 2147483579
def Q : Nat := 1073741789
def ch : Nat → Nat → Nat
  | _, 0 => 1
  | 0, _ + 1 => 0
  | n + 1, k + 1 => ch n k + ch n (k + 1)
def bs (n x : Nat) : Nat → Nat
  | 0 => 0
  | k + 1 => bs n x k + ch n k * x ^ k
end Sig
end Go.Proofs.YtdfpdfahcbflpabDoor
