/- WRITTEN BY structs.py: flat structs of the program. -/
import Derived.Test.YtjinhojlnaplaaaDoorFlat
import Derived.Test.YtjinhojlnaplaaaDoorByt
import Derived.Test.YtjinhojlnaplaaaDoorDig
import Derived.Laws.Small
import Derived.Laws.StructEq
namespace Go.Proofs.YtjinhojlnaplaaaDoor
open Sh Go.RowKit Go.WideShapes Go.ChangeShapes
set_option maxRecDepth 100000
/-- fields, one after the other: type, offset, blank -/
def eqList (d : Nat) (xs ys : Array Value) : List (TypeId × Nat × Bool) → Sem Bool
  | [] => pure true
  | (t, o, _) :: r => do
    let a ← part t xs o
    let b ← part t ys o
    let e ← Op.equalIn d t a b
    if e then eqList d xs ys r else pure false
theorem eqFlds {P : Program} {w : World} {d : Nat} {xs ys : Array Value} : ∀ {fs : List Field} {l : List (TypeId × Nat × Bool)}, fs.map (fun f => (f.type, f.offset, f.name == "_")) = l → (∀ p ∈ l, p.2.2 = false) → (Op.eqFields d xs ys fs).run P w = (eqList d xs ys l).run P w
  | [], l, h, _ => by simp only [List.map_nil] at h; subst h; simp [Op.eqFields, eqList]
  | f :: fs, l, h, hb => by
    simp only [List.map_cons] at h
    subst h
    have h1 := hb _ (List.mem_cons_self ..)
    simp only at h1
    have ih := fun w => eqFlds (P := P) (w := w) (d := d) (xs := xs) (ys := ys) (fs := fs) rfl fun p hp => hb p (List.mem_cons_of_mem _ hp)
    have h2 : ¬ f.name = "_" := by simpa using h1
    simp only [Op.eqFields, eqList, Sem.run_bind, Sem.run_ite, ne_eq, h2, not_false_eq_true, if_true]
    generalize (part f.type xs f.offset).run P w = r1
    cases r1 with
    | ok a w1 =>
      simp only [Result.andThen_ok]
      generalize (part f.type ys f.offset).run P w1 = r2
      cases r2 with
      | ok b w2 =>
        simp only [Result.andThen_ok]
        generalize (Op.equalIn d f.type a b).run P w2 = r3
        cases r3 with
        | ok r w3 => cases r <;> simp [ih w3]
        | halt x w3 => simp [Result.andThen]
      | halt x w2 => simp [Result.andThen]
    | halt x w1 => simp [Result.andThen]
theorem part_one {P : Program} {t : TypeId} {cs : Array Value} {o : Nat} {v : Value} {w : World} (ht : ∀ w, (isAgg t).run P w = .ok false w) (h : cs[o]? = some v) : (part t cs o).run P w = .ok v w := by
  obtain ⟨hlt, hv⟩ := Array.getElem?_eq_some_iff.1 h
  simp [part, ht, hlt, hv]
theorem part_agg {P : Program} {t : TypeId} {cs v : List Value} {o n : Nat} {w : World} (ht : ∀ w, (isAgg t).run P w = .ok true w) (hs : ∀ w, (sizeOf t).run P w = .ok n w) (h : (cs.drop o).take n = v) : (part t cs.toArray o).run P w = .ok (.agg v.toArray) w := by
  subst h
  simp [part, ht, hs, List.extract_eq_drop_take']
theorem eq_int {P : Program} {t : TypeId} {w : World} {d : Nat} {x y : Int} (ht : P.underlying t = some (.int .i64)) : (Op.equalIn (d + 1) t (.int .i64 x) (.int .i64 y)).run P w = .ok (decide (x = y)) w := by
  rw [run_equalIn_int w d t .i64 .i64 x y ht, Bool.beq_eq_decide_eq]
theorem eq_u64 {P : Program} {t : TypeId} {w : World} {d : Nat} {x y : BitVec 64} (ht : P.underlying t = some (.int .u64)) : (Op.equalIn (d + 1) t (u64v x) (u64v y)).run P w = .ok (decide (x = y)) w := by
  rw [u64v, u64v, run_equalIn_int w d t .u64 .u64 _ _ ht]
  have : ((x.toNat : Int) = y.toNat) ↔ x = y := ⟨fun h => BitVec.eq_of_toNat_eq (by omega), fun h => by rw [h]⟩
  rw [Bool.beq_eq_decide_eq]; simp only [this]
theorem eq_bool {P : Program} {t : TypeId} {w : World} {d : Nat} {x y : Bool} (ht : P.underlying t = some .bool) : (Op.equalIn (d + 1) t (.bool x) (.bool y)).run P w = .ok (decide (x = y)) w := by
  rw [run_equalIn_bool w d t x y ht, Bool.beq_eq_decide_eq]
/-- A slice's header. -/
structure Hdr where
  a : Option Addr
  n : Nat
  c : Nat
def Hdr.val (h : Hdr) : Value := .slice h.a h.n h.c
theorem Hdr.val_inj (a b : Hdr) : a.val = b.val ↔ a = b := by
  cases a; cases b; simp [Hdr.val]
theorem Hdr.of_sl {w : World} {sz n : Nat} {v : Value} {xs : List Value} (h : Sl w sz v n xs) : ∃ d : Hdr, v = d.val := by
  obtain ⟨a, c, rfl, _⟩ := h
  exact ⟨⟨a, n, c⟩, rfl⟩
/-- From offset o on lie these cells. -/
def Has (w : World) (b o : Nat) (cs : List Value) : Prop := ∀ j u, cs[j]? = some u → w.cell? ⟨b, o + j, none⟩ = some u
theorem has_of_at {w : World} {b : Nat} {cs : List Value} {e : TypeId} {f : Nat × Nat} (h : At w b (.cells cs.toArray e f)) : Has w b 0 cs := fun j u hu => by rw [h.cell, Nat.zero_add]; simpa using hu
theorem Has.ext {w w' : World} {b o : Nat} {cs : List Value} (h : Has w b o cs) (hb : b < w.heap.size) (he : Ext w w') : Has w' b o cs := fun j u hu => cell_ext (h j u hu) hb he
theorem has_at {w : World} {b o d o' : Nat} {cs : List Value} {u : Value} (h : Has w b o cs) (ho : o' = o + d) (hu : cs[d]? = some u) : w.cell? ⟨b, o', none⟩ = some u := by subst ho; exact h d u hu
theorem has_part {w : World} {b o d n o' j : Nat} {cs xs : List Value} {u : Value} (h : Has w b o cs) (ho : o' = o + d) (hx : (cs.drop d).take n = xs) (hu : xs[j]? = some u) : w.cell? ⟨b, o' + j, none⟩ = some u := by
  subst ho; subst hx
  rw [List.getElem?_take] at hu
  split at hu
  · rw [List.getElem?_drop] at hu
    rw [Nat.add_assoc]; exact h _ _ hu
  · cases hu
theorem eqList_nil {P : Program} {d : Nat} {xs ys : Array Value} : ∀ w, (eqList d xs ys []).run P w = .ok true w := fun w => by simp [eqList]
theorem eqList_cons {P : Program} {d : Nat} {xs ys : Array Value} {t : TypeId} {o : Nat} {q : Bool} {r : List (TypeId × Nat × Bool)} {x y : Value} {b c : Bool} (hx : ∀ w, (part t xs o).run P w = .ok x w) (hy : ∀ w, (part t ys o).run P w = .ok y w) (he : ∀ w, (Op.equalIn d t x y).run P w = .ok b w)
    (hr : ∀ w, (eqList d xs ys r).run P w = .ok c w) : ∀ w, (eqList d xs ys ((t, o, q) :: r)).run P w = .ok (b && c) w := fun w => by
  simp only [eqList, Sem.run_bind, hx, hy, he, Result.andThen_ok]
  cases b <;> simp [hr]
theorem trod_fld {P : Program} {H : Type} {enc : TypeId × Value → H} {W : World} {T : TypeId} {fuel : Nat} {cs : List Value} {x : DataW H × List MemPlace} {l : List (TypeId × Nat × Bool)} (hu : P.underlying T = some (.struct (P.fieldsOf T))) (hfl : (P.fieldsOf T).toList.map (fun f => (f.type, f.offset, f.name == "_")) = l)
    (h : DataW.trod enc P W 0 (fun _ => true) true fuel T cs = some x) {i : Nat} {t : TypeId} {o : Nat} {q : Bool} (hi : l[i]? = some (t, o, q)) : ∃ m y, DataW.trod enc P W 0 (fun _ => true) true m t ((cs.drop o).take (P.cellsOf t)) = some y := by
  obtain ⟨xs, n, _, _, _, hlen, hf⟩ := DataW.trod_struct hu h
  subst hfl
  rw [List.getElem?_map] at hi
  cases hg : (P.fieldsOf T).toList[i]? with
  | none => rw [hg] at hi; cases hi
  | some f =>
    rw [hg] at hi
    simp only [Option.map_some, Option.some.injEq, Prod.mk.injEq] at hi
    obtain ⟨rfl, rfl, _⟩ := hi
    have hlt : i < (P.fieldsOf T).size := by have := (List.getElem?_eq_some_iff.1 hg).1; simpa using this
    refine ⟨n, xs[i]'(by omega), ?_⟩
    rw [hf i f (by simpa using hg)]
    exact List.getElem?_eq_getElem _
theorem leaf_int {P : Program} {H : Type} {enc : TypeId × Value → H} {W : World} {t : TypeId} {fuel : Nat} {cs : List Value} {x : DataW H × List MemPlace} (ht : P.underlying t = some (.int .i64)) (h : DataW.trod enc P W 0 (fun _ => true) true fuel t cs = some x) : ∃ a : Int, cs = [.int .i64 a] ∧ I64 a := by
  obtain ⟨z, h1, _, h2⟩ := DataW.trod_int ht h
  refine ⟨z, h1, ?_⟩
  unfold I64
  simpa [Lit.wf, IntKind.min, IntKind.max, IntKind.signed, IntKind.bits] using h2
theorem leaf_u64 {P : Program} {H : Type} {enc : TypeId × Value → H} {W : World} {t : TypeId} {fuel : Nat} {cs : List Value} {x : DataW H × List MemPlace} (ht : P.underlying t = some (.int .u64)) (h : DataW.trod enc P W 0 (fun _ => true) true fuel t cs = some x) : ∃ a : BitVec 64, cs = [u64v a] ∧ True := by
  obtain ⟨z, h1, _, h2⟩ := DataW.trod_int ht h
  have : 0 ≤ z ∧ z ≤ 18446744073709551615 := by simpa [Lit.wf, IntKind.min, IntKind.max, IntKind.signed, IntKind.bits] using h2
  refine ⟨BitVec.ofNat 64 z.toNat, ?_, trivial⟩
  rw [h1, u64v, BitVec.toNat_ofNat]
  congr 2; omega
theorem leaf_bool {P : Program} {H : Type} {enc : TypeId × Value → H} {W : World} {t : TypeId} {fuel : Nat} {cs : List Value} {x : DataW H × List MemPlace} (ht : P.underlying t = some .bool) (h : DataW.trod enc P W 0 (fun _ => true) true fuel t cs = some x) : ∃ a : Bool, cs = [.bool a] ∧ True := by
  obtain ⟨z, h1, _⟩ := DataW.trod_bool ht h
  exact ⟨z, h1, trivial⟩
end Go.Proofs.YtjinhojlnaplaaaDoor
