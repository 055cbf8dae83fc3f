/- Memory: what stays as it was, blocks known whole, slices that are read, rows that are built. -/
import Derived.Test.YtoeblipchoglaaaGreatDoorZBaseA
import Derived.Laws.BytesArg
import Derived.Laws.IdiomStrings
import Derived.Laws.AppendOwn
import Derived.Laws.OwnMore
import Derived.Laws.Build
import Derived.Laws.Tables
import Derived.Laws.Slices
import Derived.Laws.Cells
import Derived.Laws.CopyRow
import Derived.Great.BuildSlice
import Derived.Laws.Cover3
import Derived.Test.YtoeblipchoglaaaGreatDoorProg
import Derived.KernelRfl
import Derived.Laws.Small
namespace Go.Proofs.YtoeblipchoglaaaGreatDoor
set_option maxRecDepth 100000
namespace Sh
open Go.RowKit
variable {P : Program} {w w' : World} {K : Value → World → Prop} {X : List PanicEntry → World → Prop}

structure Mod (S : Nat → Prop) (w w' : World) : Prop where
  os : w'.os = w.os
  tape : w'.tape = w.tape
  output : w'.output = w.output
  size : w.heap.size ≤ w'.heap.size
  block : ∀ k, k < w.heap.size → ¬ S k → w'.heap[k]? = w.heap[k]?
theorem Mod.refl (S : Nat → Prop) (w : World) : Mod S w w := ⟨rfl, rfl, rfl, Nat.le_refl _, fun _ _ _ => rfl⟩
theorem Mod.comp {S T U : Nat → Prop} {a b c : World} (h : Mod S a b) (h' : Mod T b c) (hs : ∀ k, k < a.heap.size → S k → U k) (ht : ∀ k, k < a.heap.size → T k → U k) : Mod U a c :=
  ⟨h'.os.trans h.os, h'.tape.trans h.tape, h'.output.trans h.output, Nat.le_trans h.size h'.size, fun k hk hu =>
    (h'.block k (Nat.lt_of_lt_of_le hk h.size) fun hh => hu (ht k hk hh)).trans (h.block k hk fun hh => hu (hs k hk hh))⟩
theorem Mod.trans {S : Nat → Prop} {a b c : World} (h : Mod S a b) (h' : Mod S b c) : Mod S a c := h.comp h' (fun _ _ h => h) (fun _ _ h => h)
theorem Mod.mono {S T : Nat → Prop} (h : Mod S w w') (hs : ∀ k, k < w.heap.size → S k → T k) : Mod T w w' := ⟨h.os, h.tape, h.output, h.size, fun k hk hn => h.block k hk fun hh => hn (hs k hk hh)⟩
theorem Mod.of_ext {S : Nat → Prop} (h : Ext w w') : Mod S w w' := ⟨h.os, h.tape, h.output, h.size, fun k hk _ => h.block k hk⟩
theorem Mod.ext {S : Nat → Prop} (h : Mod S w w') (hs : ∀ k, k < w.heap.size → ¬ S k) : Ext w w' := ⟨h.os, h.tape, h.output, h.size, fun k hk => h.block k hk (hs k hk)⟩
theorem Mod.new (h : Mod (w.heap.size ≤ ·) w w') : Ext w w' := h.ext fun k hk h => by omega
theorem Mod.setCell (a : Addr) (v : Value) : Mod (· = a.block) w (w.setCell a v) := ⟨rfl, rfl, rfl, by simp, fun k _ hk => Below.heap_setCell _ _ _ _ hk⟩
theorem Mod.grown {row : Option Nat} (h : w.grownBy w' row) : Mod (fun k => row = some k) w w' := ⟨h.os, h.tape, h.output, h.size, fun k hk hn => h.block k hk fun e => hn e.symm⟩

def At (w : World) (b : Nat) (o : Obj) : Prop := w.heap[b]? = some o
theorem At.lt {b : Nat} {o : Obj} (h : At w b o) : b < w.heap.size := (Array.getElem?_eq_some_iff.1 h).1
theorem At.mod {S : Nat → Prop} {b : Nat} {o : Obj} (h : At w b o) (hm : Mod S w w') (hs : ¬ S b) : At w' b o := (hm.block b h.lt hs).trans h
theorem At.ext {b : Nat} {o : Obj} (h : At w b o) (hm : Ext w w') : At w' b o := (hm.block b h.lt).trans h
theorem At.cell {b : Nat} {cs : Array Value} {e : TypeId} {f : Nat × Nat} (h : At w b (.cells cs e f)) (o : Nat) : w.cell? ⟨b, o, none⟩ = cs[o]? := by
  unfold At at h; simp [World.cell?, h]
theorem At.free {b : Nat} {cs : Array Value} {e : TypeId} (h : At w b (.cells cs e (0, 0))) (o : Nat) : w.frozen? ⟨b, o, none⟩ = false := by
  unfold At at h; simp [World.frozen?, h]
theorem At.inj {b b' : Nat} {cs cs' : Array Value} {e e' : TypeId} {f f' : Nat × Nat} (h : At w b (.cells cs e f)) (h' : At w b' (.cells cs' e' f')) (hne : e ≠ e') : b ≠ b' := by
  rintro rfl
  unfold At at h h'
  rw [h] at h'
  simp only [Option.some.injEq, Obj.cells.injEq] at h'
  exact hne h'.2.1
theorem At.set {b : Nat} {cs : Array Value} {e : TypeId} {f : Nat × Nat} (h : At w b (.cells cs e f)) (o : Nat) (v : Value) : At (w.setCell ⟨b, o, none⟩ v) b (.cells (cs.setIfInBounds o v) e f) := by
  unfold At at h ⊢
  simp only [World.setCell, Array.getElem?_modify, if_true, h, Option.map_some]
  rfl

def Off (S : Nat → Prop) (v : Value) : Prop := ∀ k, v.ownBlock = some k → ¬ S k
theorem Sl.mod {S : Nat → Prop} {sz n : Nat} {v : Value} {xs : List Value} (h : Sl w sz v n xs) (hm : Mod S w w') (hs : Off S v) : Sl w' sz v n xs := by
  obtain ⟨a, cap, rfl, h1, h2, h3, h4⟩ := h
  exact ⟨a, cap, rfl, h1, h2, h3, h4.same hm.size fun b o ha hlt => hm.block b hlt (hs b (by subst ha; rfl))⟩
theorem Sl.mod_ne {S : Nat → Prop} {sz n : Nat} {v : Value} {xs : List Value} (h : Sl w sz v n xs) (hm : Mod S w w') (hs : xs ≠ [] → Off S v) : Sl w' sz v n xs := by
  obtain ⟨a, cap, rfl, h1, h2, h3, h4⟩ := h
  refine ⟨a, cap, rfl, h1, h2, h3, ?_⟩
  by_cases hx : xs = []
  · exact .inl hx
  · exact h4.same hm.size fun b o ha hlt => hm.block b hlt (hs hx b (by subst ha; rfl))
theorem Sl.old {sz n : Nat} {v : Value} {xs : List Value} (h : Sl w sz v n xs) (hx : xs ≠ []) {k : Nat} (hk : v.ownBlock = some k) : k < w.heap.size := by
  obtain ⟨a, cap, rfl, h1, h2, h3, h4⟩ := h
  rcases h4 with h4 | ⟨b, o, rfl, hlt, _⟩
  · exact absurd h4 hx
  · have : b = k := by simpa [Value.ownBlock] using hk
    omega
theorem Own.mod {S : Nat → Prop} {base : Nat} {e : TypeId} {sz n : Nat} {v : Value} {xs : List Value} (h : w.ownsRow base e sz v n xs) (hm : Mod S w w') (hs : Off S v) : w'.ownsRow base e sz v n xs := by
  refine ⟨h.1, ?_⟩
  rcases h.2 with hn | ⟨g, cap, cur, rfl, hb, hgg, rest⟩
  · exact .inl hn
  · refine .inr ⟨g, cap, cur, rfl, hb, ?_, rest⟩
    rw [hm.block g (Array.getElem?_eq_some_iff.1 hgg).1 (hs g rfl)]
    exact hgg
theorem Own.ext {base : Nat} {e : TypeId} {sz n : Nat} {v : Value} {xs : List Value} (h : w.ownsRow base e sz v n xs) (hm : Ext w w') : w'.ownsRow base e sz v n xs :=
  Own.mod (S := fun _ => False) h (.of_ext hm) fun _ _ h => h
theorem Own.mono {base base' : Nat} {e : TypeId} {sz n : Nat} {v : Value} {xs : List Value} (h : w.ownsRow base e sz v n xs) (hb : base' ≤ base) : w.ownsRow base' e sz v n xs := by
  refine ⟨h.1, ?_⟩
  rcases h.2 with hn | ⟨g, cap, cur, rfl, hg, rest⟩
  · exact .inl hn
  · exact .inr ⟨g, cap, cur, rfl, by omega, rest⟩

theorem Own.block {base : Nat} {e : TypeId} {sz n : Nat} {v : Value} {xs : List Value} (h : w.ownsRow base e sz v n xs) {k : Nat} (hk : v.ownBlock = some k) : base ≤ k ∧ k < w.heap.size := by
  rcases h.2 with ⟨rfl, _⟩ | ⟨g', cap, cur, rfl, hgb, hg, _⟩
  · simp [Value.ownBlock] at hk
  · have : g' = k := by simpa [Value.ownBlock] using hk
    subst this
    exact ⟨hgb, (Array.getElem?_eq_some_iff.1 hg).1⟩
theorem Own.off_at {base : Nat} {e e' : TypeId} {sz n : Nat} {v : Value} {xs : List Value} {b : Nat} {cs : Array Value} {f : Nat × Nat} (h : w.ownsRow base e sz v n xs) (hat : At w b (.cells cs e' f)) (hne : e ≠ e') : Off (· = b) v := by
  intro k hk hkb
  subst hkb
  rcases h.2 with ⟨rfl, _⟩ | ⟨g', cap, cur, rfl, hgb, hg, _⟩
  · simp [Value.ownBlock] at hk
  · have : g' = k := by simpa [Value.ownBlock] using hk
    subst this
    exact At.inj (show At w g' (.cells cur e (0, 0)) from hg) hat hne rfl
theorem Own.nil (w : World) (base : Nat) (e : TypeId) (sz : Nat) : w.ownsRow base e sz (.slice none 0 0) 0 [] := ⟨by simp, .inl ⟨rfl, rfl⟩⟩
theorem loadVar_at {t : TypeId} {b o : Nat} {cs : Array Value} {e : TypeId} {f : Nat × Nat} {u : Value} (ht : ∀ w, (isAgg t).run P w = .ok false w) (h : At w b (.cells cs e f)) (hu : cs[o]? = some u) : (loadVar t ⟨b, o, none⟩).run P w = .ok u w := by
  have hc : w.cell? ⟨b, o, none⟩ = some u := by rw [h.cell]; exact hu
  simp [loadVar, ht, load, Sem.run, hc]

theorem alloc_i {t : TypeId} {z : Value} (hz : ∀ w, (zeroValue t).run P w = .ok z w) {old : Value} (hk : ∀ b w1, Ext w w1 → At w1 b (.cells z.cells t (0, 0)) → w.heap.size = b → w1.heap.size = b + 1 → K (.pointer (some ⟨b, 0, none⟩)) w1) :
    DoV P (Instr.alloc t true old) w K X := by
  have e : (Instr.alloc t true old).run P w = .ok (.pointer (some ⟨w.heap.size, 0, none⟩)) (w.alloc (.cells z.cells t)) := by
    cases old <;> simp [Instr.alloc, hz, newVar, newRow, newObj, Sem.run]
  rw [DoV_ok e]
  exact hk _ _ (Ext.alloc _ _) (by unfold At; exact heap_alloc_new w _) rfl (by simp)
theorem load_i {t : TypeId} {b o : Nat} {cs : Array Value} {e : TypeId} {f : Nat × Nat} {u : Value} (ht : ∀ w, (isAgg t).run P w = .ok false w) (h : At w b (.cells cs e f)) (hu : cs[o]? = some u) (hk : K u w) :
    DoV P (Instr.loadAt t (.pointer (some ⟨b, o, none⟩))) w K X := by
  rw [load_cell ht (by rw [h.cell]; exact hu)]; exact hk
theorem store_i {t : TypeId} {b o : Nat} {cs : Array Value} {e : TypeId} {v : Value} (ht : ∀ w, (sizeOf t).run P w = .ok 1 w) (h : At w b (.cells cs e (0, 0))) (ho : o < cs.size) (hv : v.oneCell' = true)
    (hk : ∀ w1, Mod (· = b) w w1 → At w1 b (.cells (cs.setIfInBounds o v) e (0, 0)) → w1.heap.size = w.heap.size → K undef w1) : DoU P (Instr.storeAt t (.pointer (some ⟨b, o, none⟩)) v) w K X := by
  have hcs : v.cells = #[v] := by cases v <;> first | rfl | exact absurd hv (by simp [Value.oneCell'])
  have e : (Instr.storeAt t (.pointer (some ⟨b, o, none⟩)) v).run P w = .ok () (w.setCell ⟨b, o, none⟩ v) := by
    have h1 : w.cell? ⟨b, o, none⟩ = some cs[o] := by rw [h.cell]; simp [ho]
    simp [Instr.storeAt, Instr.sureAddr, storeVar, hcs, ht, storeCells, Addr.add, run_store P w _ v .plain hv, h1, h.free]
  rw [DoU_ok e]
  exact hk _ (Mod.setCell ⟨b, o, none⟩ v) (h.set o v) (by simp)

theorem store_x {t : TypeId} {b o : Nat} {cs : Array Value} {e : TypeId} {v x : Value} (ht : ∀ w, (sizeOf t).run P w = .ok 1 w) (h : At w b (.cells cs e (0, 0))) (ho : o < cs.size) (hcs : v.cells = #[x]) (hv : x.oneCell' = true)
    (hk : ∀ w1, Mod (· = b) w w1 → At w1 b (.cells (cs.setIfInBounds o x) e (0, 0)) → w1.heap.size = w.heap.size → K undef w1) : DoU P (Instr.storeAt t (.pointer (some ⟨b, o, none⟩)) v) w K X := by
  have e : (Instr.storeAt t (.pointer (some ⟨b, o, none⟩)) v).run P w = .ok () (w.setCell ⟨b, o, none⟩ x) := by
    have h1 : w.cell? ⟨b, o, none⟩ = some cs[o] := by rw [h.cell]; simp [ho]
    simp [Instr.storeAt, Instr.sureAddr, storeVar, hcs, ht, storeCells, Addr.add, run_store P w _ x .plain hv, h1, h.free]
  rw [DoU_ok e]
  exact hk _ (Mod.setCell ⟨b, o, none⟩ x) (h.set o x) (by simp)
theorem build_i {t : TypeId} {parts : Array (Nat × Value)} {cells : Array Value} (h : P.built t parts.toList = some cells) : DoV P (Instr.build t parts) w K X = K (.agg cells) w := DoV_ok (run_build w t parts cells h)
theorem iface_i {t : TypeId} {v : Value} (h : P.concrete t = true) : DoV P (Instr.makeInterface t v) w K X = K (.iface t v) w := DoV_ok (run_makeInterface w t v h)
theorem panic_i {t : TypeId} {v : Value} : DoV P (Instr.panic (.iface t v)) w K X = X [{ v := .iface t v, recovered := false }] w := DoV_panic (run_panic_iface t v w)
theorem nil_ptr {a : Addr} : NilC P (.pointer (some a)) w K X = K (.pointer (some a)) w := by simp [NilC, Do, nilS]

theorem elem_of {T e : TypeId} (hT : P.underlying T = some (.slice e)) : P.elem T = e := by simp [Program.elem, hT]
theorem sliced_sl {sz n l h m cap : Nat} {a : Option Addr} {xs : List Value} (_hpos : 0 < sz) (hv : Sl w sz (.slice a n cap) n xs) (hl : l ≤ h) (hh : h ≤ n) (hm : h ≤ m) (hc : m ≤ cap) : Sl w sz (sliced a l h m sz) (h - l) ((xs.take (h * sz)).drop (l * sz)) := by
  obtain ⟨a', cap', he, h1, h2, h3, h4⟩ := hv
  cases he
  refine ⟨_, _, rfl, by omega, by simp only [maxLen] at h2 ⊢; omega, ?_, ?_⟩
  · rw [List.length_drop, List.length_take, h3, Nat.min_eq_left (Nat.mul_le_mul_right sz hh), Nat.sub_mul]
  · by_cases hml : m = l
    · refine .inl ?_
      have : h = l := by omega
      subst this
      exact List.drop_eq_nil_of_le (by rw [List.length_take]; omega)
    · rw [if_neg hml]
      rcases h4 with h4 | ⟨b, o, rfl, hlt, hcell⟩
      · subst h4; simp [Rd]
      · refine .inr ⟨b, o + l * sz, ?_, hlt, fun j u hu => ?_⟩
        · simp only [Option.map_some, Addr.add, Option.some.injEq]
          split <;> simp_all
        · rw [List.getElem?_drop, List.getElem?_take] at hu
          split at hu
          · rw [Nat.add_assoc]; exact hcell _ _ hu
          · cases hu
theorem sliced_own {a : Option Addr} {l h m sz n cap k : Nat} (hk : (sliced a l h m sz).ownBlock = some k) : (Value.slice a n cap).ownBlock = some k := by
  unfold sliced at hk
  cases a with
  | none => split at hk <;> simp [Value.ownBlock] at hk
  | some a =>
    split at hk
    · exact hk
    · simp only [Value.ownBlock, Option.map_some, Addr.add] at hk ⊢
      split at hk <;> exact hk
section
variable {T e : TypeId} {i : TypeInfo} {sz n : Nat} {v : Value} {xs : List Value} {k k' k'' : IntKind}
theorem slice_from (hT : P.underlying T = some (.slice e)) (hi : P.info? e = some i) (hsz : i.size = sz) (hpos : 0 < sz) (hv : Sl w sz v n xs) {l : Nat} (hl : l ≤ n)
    (hk : ∀ v', Sl w sz v' (n - l) (xs.drop (l * sz)) → (∀ b, v'.ownBlock = some b → v.ownBlock = some b) → K v' w) : DoV P (Instr.sliceAt T v (some (.int k l)) none none) w K X := by
  have he := elem_of hT
  obtain ⟨a, cap, rfl, h1, h2, h3, h4⟩ := hv
  refine DoV_i (v := sliced a l n cap sz) (w' := w) ?_ (hk _ ?_ fun b => sliced_own)
  · rw [run_sliceAt_slice w _ _ _ _ _ (by rw [he]; exact hT), run_slice_l w T a n cap (by rw [he]; exact hT) k l (by omega) (by omega), he]
    simp [sizeOf, typeInfo, hi, hsz]
  · have := sliced_sl (w := w) (m := cap) hpos ⟨a, cap, rfl, h1, h2, h3, h4⟩ hl (Nat.le_refl n) h1 (Nat.le_refl _)
    rw [List.take_of_length_le (by omega)] at this
    exact this
theorem slice_upto (hT : P.underlying T = some (.slice e)) (hi : P.info? e = some i) (hsz : i.size = sz) (hpos : 0 < sz) (hv : Sl w sz v n xs) {h : Nat} (hh : h ≤ n)
    (hk : ∀ v', Sl w sz v' h (xs.take (h * sz)) → (∀ b, v'.ownBlock = some b → v.ownBlock = some b) → K v' w) : DoV P (Instr.sliceAt T v none (some (.int k h)) none) w K X := by
  have he := elem_of hT
  obtain ⟨a, cap, rfl, h1, h2, h3, h4⟩ := hv
  refine DoV_i (v := sliced a 0 h cap sz) (w' := w) ?_ (hk _ ?_ fun b => sliced_own)
  · rw [run_sliceAt_slice w _ _ _ _ _ (by rw [he]; exact hT), run_slice_h w T a n cap (by rw [he]; exact hT) k h (by omega) (by omega), he]
    simp [sizeOf, typeInfo, hi, hsz]
  · have := sliced_sl (w := w) (m := cap) hpos ⟨a, cap, rfl, h1, h2, h3, h4⟩ (Nat.zero_le h) hh (by omega) (Nat.le_refl _)
    simpa using this
theorem slice_range (hT : P.underlying T = some (.slice e)) (hi : P.info? e = some i) (hsz : i.size = sz) (hpos : 0 < sz) (hv : Sl w sz v n xs) {l h : Nat} (hl : l ≤ h) (hh : h ≤ n)
    (hk : ∀ v', Sl w sz v' (h - l) ((xs.take (h * sz)).drop (l * sz)) → (∀ b, v'.ownBlock = some b → v.ownBlock = some b) → K v' w) : DoV P (Instr.sliceAt T v (some (.int k l)) (some (.int k' h)) none) w K X := by
  have he := elem_of hT
  obtain ⟨a, cap, rfl, h1, h2, h3, h4⟩ := hv
  refine DoV_i (v := sliced a l h cap sz) (w' := w) ?_ (hk _ ?_ fun b => sliced_own)
  · rw [run_sliceAt_slice w _ _ _ _ _ (by rw [he]; exact hT), run_slice_lh w T a n cap (by rw [he]; exact hT) k k' l h (by omega) (by omega) (by omega), he]
    simp [sizeOf, typeInfo, hi, hsz]
  · exact sliced_sl (w := w) (m := cap) hpos ⟨a, cap, rfl, h1, h2, h3, h4⟩ hl hh (by omega) (Nat.le_refl _)
theorem slice_upto3 (hT : P.underlying T = some (.slice e)) (hi : P.info? e = some i) (hsz : i.size = sz) (hpos : 0 < sz) (hv : Sl w sz v n xs) {h : Nat} (hh : h ≤ n)
    (hk : ∀ v', Sl w sz v' h (xs.take (h * sz)) → (∀ b, v'.ownBlock = some b → v.ownBlock = some b) → K v' w) : DoV P (Instr.sliceAt T v none (some (.int k h)) (some (.int k' h))) w K X := by
  have he := elem_of hT
  obtain ⟨a, cap, rfl, h1, h2, h3, h4⟩ := hv
  refine DoV_i (v := sliced a 0 h h sz) (w' := w) ?_ (hk _ ?_ fun b => sliced_own)
  · rw [run_sliceAt_slice w _ _ _ _ _ (by rw [he]; exact hT), run_slice_hm w T a n cap (by rw [he]; exact hT) k k' h h (by omega) (by omega) (by omega), he]
    simp [sizeOf, typeInfo, hi, hsz]
  · have := sliced_sl (w := w) (m := h) hpos ⟨a, cap, rfl, h1, h2, h3, h4⟩ (Nat.zero_le h) hh (by omega) (by omega)
    simpa using this
end

theorem lit1_i {T e : TypeId} {z v : Value} {i : TypeInfo} (hT : P.underlying T = some (.slice e)) (hi : P.info? e = some i) (hsz : i.size = 1) (hz : i.zero = some z) (hz1 : z.cells = #[z]) (hv : v.cells = #[v])
    (hk : ∀ g w1, Ext w w1 → At w1 g (.cells #[v] e (0, 0)) → w.heap.size = g → w1.heap.size = g + 1 → K (.slice (some ⟨g, 0, none⟩) 1 1) w1) : DoV P (Instr.buildSlice T 1 #[(0, v)]) w K X := by
  have e : (Instr.buildSlice T 1 #[(0, v)]).run P w = .ok (.slice (some ⟨w.heap.size, 0, none⟩) 1 1) (w.alloc (.cells #[v] e)) := by
    have hr : Array.range 1 = #[0] := rfl
    simp [Instr.buildSlice, run_underlying hT, sizeOf, typeInfo, hi, hsz, zeroValue, hz, hz1, Instr.fill, hv, newRow, newObj, Sem.run, hr]
  rw [DoV_ok e]
  exact hk _ _ (Ext.alloc _ _) (by unfold At; exact heap_alloc_new w _) rfl (by simp)
theorem Sl.of_lit {g : Nat} {v : Value} {e : TypeId} (h : At w g (.cells #[v] e (0, 0))) : Sl w 1 (.slice (some ⟨g, 0, none⟩) 1 1) 1 [v] :=
  ⟨_, 1, rfl, Nat.le_refl _, by simp [maxLen], rfl, .inr ⟨g, 0, rfl, h.lt, fun j u hu => by
    rw [h.cell]
    cases j with
    | zero => simpa using hu
    | succ j => simp at hu⟩⟩
theorem app_none {T e : TypeId} {ty : TypeId} {cs : Array Bool} {i : TypeInfo} (hT : P.underlying T = some (.slice e)) (hi : P.info? e = some i) {a a' : Option Addr} {n c c' : Nat} (hn : n ≤ c) :
    CallB P .append #[T, T] ty cs #[.slice a n c, .slice a' 0 c'] w K X = K (.slice a n c) w := by
  have e : (Builtin.append_ #[T, T] ty #[.slice a n c, .slice a' 0 c']).run P w = .ok (.slice a n c) w := by
    cases a <;> cases a' <;> simp [Builtin.append_, run_underlying hT, sizeOf, typeInfo, hi, Builtin.lenOf, Builtin.firstCells, loadCells, loadCellsFrom, storeCells, hn]
  simp [CallB, Do, builtin, e]
theorem app_own {base : Nat} {T e : TypeId} {ty : TypeId} {cs : Array Bool} {i : TypeInfo} {z : Value} {sz bytes : Nat} (hT : P.underlying T = some (.slice e)) (hi : P.info? e = some i) (hz : i.zero = some z)
    (hsz : i.size = sz) (hby : i.bytes = bytes) (hzs : z.cells.size = sz) (hpos : 0 < sz)
    {v x : Value} {n m : Nat} {xs news : List Value} (hown : w.ownsRow base e sz v n xs) (hx : Sl w sz x m news) (h1 : ∀ u ∈ news, u.oneCell' = true) (hb : (n + m) * bytes ≤ 140737488355328) (h63 : n + m ≤ 140737488355328) (hbase : base ≤ w.heap.size)
    (hk : ∀ v' w1, w1.ownsRow base e sz v' (n + m) (xs ++ news) → Mod (fun k => v.ownBlock = some k) w w1 → (v' = .slice none 0 0 ↔ v = .slice none 0 0 ∧ m = 0) → K v' w1) :
    CallB P .append #[T, T] ty cs #[v, x] w K X := by
  obtain ⟨a, c, rfl, hmc, hcm, hl, hr⟩ := hx
  have hfin : ∀ v' w1, (Builtin.append_ #[T, T] ty #[v, .slice a m c]).run P w = .ok v' w1 → K v' w1 → CallB P .append #[T, T] ty cs #[v, .slice a m c] w K X := fun v' w1 he hK => by
    simp only [CallB, Do, builtin, Sem.run_bind, he, Result.andThen_ok, Sem.run_pure]; exact hK
  rcases hr with rfl | ⟨b, o, rfl, hlt, hc⟩
  · have hm0 : m = 0 := by
      have : m * sz = 0 := by simpa using hl.symm
      rcases Nat.mul_eq_zero.1 this with h | h <;> omega
    subst hm0
    rcases hown.2 with ⟨rfl, rfl⟩ | ⟨g, cap, cur, rfl, hb, hg, hn, hcc, _⟩
    · rw [app_none hT hi (Nat.le_refl _)]
      exact hk _ _ (by simpa using hown) (Mod.refl _ _) (by simp)
    · rw [app_none hT hi hn]
      exact hk _ _ (by simpa using hown) (Mod.refl _ _) (by simp)
  · obtain ⟨v', w1, he, h2, h3, h4⟩ := run_append_own (P := P) w base T ty e i z sz bytes hT hi hz hsz hby hzs hpos v n xs hown ⟨b, o, none⟩ m c news hl (fun j u hu => by
      have := hc j u hu
      unfold Addr.add
      split
      · rename_i hj; subst hj; simpa using this
      · exact this) h1 (by simp only [maxLen]; omega) hb hbase
    exact hfin v' w1 he (hk v' w1 h2 (.grown h3) h4)
end Sh
end Go.Proofs.YtoeblipchoglaaaGreatDoor
namespace Go.Proofs.YtoeblipchoglaaaGreatDoor
set_option maxRecDepth 100000
namespace Sh
open Go.RowKit
variable {P : Program} {w w' : World} {K : Value → World → Prop} {X : List PanicEntry → World → Prop}
theorem index_arr {t e : TypeId} {n : Nat} {i : TypeInfo} {b : Nat} {k : IntKind} {j : Nat} (ht : P.underlying t = some (.array n e)) (hi : P.info? e = some i) (hsz : i.size = 1) (hj : j < n) :
    DoV P (Instr.indexAt t (.pointer (some ⟨b, 0, none⟩)) (.int k j)) w K X = K (.pointer (some ⟨b, j, none⟩)) w := by
  refine DoV_ok ?_
  have hadd : (⟨b, 0, none⟩ : Addr).add j = ⟨b, j, none⟩ := by unfold Addr.add; split <;> simp_all
  simp [Instr.indexAt, asIntOf, Instr.sureAddr, run_underlying ht, sizeOf, typeInfo, hi, hsz, hj, hadd]
theorem loadVar_agg {t : TypeId} {b : Nat} {n : Nat} {xs : List Value} (ht : ∀ w, (isAgg t).run P w = .ok true w) (hs : ∀ w, (sizeOf t).run P w = .ok n w) (hx : xs.length = n)
    (h : ∀ j u, xs[j]? = some u → w.cell? ⟨b, 0 + j, none⟩ = some u) : (loadVar t ⟨b, 0, none⟩).run P w = .ok (.agg xs.toArray) w := by
  have hl := run_loadCells_list (P := P) w ⟨b, 0, none⟩ xs (fun j u hu => by
    have hadd : (⟨b, 0, none⟩ : Addr).add j = ⟨b, 0 + j, none⟩ := by unfold Addr.add; split <;> simp_all
    rw [hadd]; exact h j u hu)
  rw [hx] at hl
  simp [loadVar, ht, hs, hl]
theorem load_arr {t : TypeId} {b o : Nat} {n : Nat} {xs : List Value} (ht : ∀ w, (isAgg t).run P w = .ok true w) (hs : ∀ w, (sizeOf t).run P w = .ok n w) (hx : xs.length = n)
    (h : ∀ j u, xs[j]? = some u → w.cell? ⟨b, o + j, none⟩ = some u) : DoV P (Instr.loadAt t (.pointer (some ⟨b, o, none⟩))) w K X = K (.agg xs.toArray) w := by
  refine DoV_ok ?_
  have hl := run_loadCells_list (P := P) w ⟨b, o, none⟩ xs (fun j u hu => by
    have hadd : (⟨b, o, none⟩ : Addr).add j = ⟨b, o + j, none⟩ := by unfold Addr.add; split <;> simp_all
    rw [hadd]; exact h j u hu)
  rw [hx] at hl
  simp [Instr.loadAt, Instr.sureAddr, loadVar, ht, hs, hl]
theorem store_all {t : TypeId} {b : Nat} {cs : Array Value} {e : TypeId} {v : Value} {n : Nat} (hs : ∀ w, (sizeOf t).run P w = .ok n w) (h : At w b (.cells cs e (0, 0))) (hn : cs.size = n) (hv : v.cells.size = n) (h1 : ∀ u ∈ v.cells.toList, u.oneCell' = true)
    (hk : ∀ w1, Mod (· = b) w w1 → At w1 b (.cells v.cells e (0, 0)) → w1.heap.size = w.heap.size → K undef w1) : DoU P (Instr.storeAt t (.pointer (some ⟨b, 0, none⟩)) v) w K X := by
  have hl := run_storeCells_at (P := P) b 0 e v.cells.toList 0 cs w h (by simp; omega) h1
  have e2 : (cs.toList.take (0 + 0) ++ v.cells.toList ++ cs.toList.drop (0 + 0 + v.cells.toList.length)).toArray = v.cells := by
    have hd : cs.toList.drop (0 + 0 + v.cells.toList.length) = [] := List.drop_eq_nil_of_le (by simp; omega)
    rw [hd]; simp
  rw [e2] at hl
  have e1 : (Instr.storeAt t (.pointer (some ⟨b, 0, none⟩)) v).run P w = .ok () (w.setRow b v.cells) := by
    simp [Instr.storeAt, Instr.sureAddr, storeVar, hs, hv, hl]
  rw [DoU_ok e1]
  refine hk _ ⟨rfl, rfl, rfl, by simp [World.setRow], fun k hk hne => ?_⟩ ?_ (by simp [World.setRow])
  · simp only [World.setRow]
    rw [Array.getElem?_modify, if_neg (fun e => hne e.symm)]
  · unfold At at h ⊢
    simp only [World.setRow, Array.getElem?_modify, if_true, h, Option.map_some]
theorem str_of {T S e : TypeId} (hs : P.underlying T = some (.slice e)) (he : P.underlying e = some (.int .u8)) (hd : P.underlying S = some .string) {v : Value} {l : List UInt8} (hv : Sl w 1 v l.length (l.map fun b => Value.int .u8 b.toNat)) :
    DoV P (convert T S v) w K X = K (.string ⟨l.toArray⟩) w := by
  refine DoV_ok ?_
  obtain ⟨a, cap, rfl, h1, h2, h3, h4⟩ := hv
  cases a with
  | none =>
    have : l = [] := by
      rcases h4 with h4 | ⟨b, o, h, _⟩
      · simpa using h4
      · cases h
    subst this
    exact run_convert_bytes_nil w T e hs he 0 cap S hd
  | some a =>
    refine run_convert_bytes_back w T S e a cap l hs he hd fun j hj => ?_
    rcases h4 with h4 | ⟨b, o, h, hlt, hc⟩
    · have : l = [] := by simpa using h4
      subst this; simp at hj
    · cases h
      have hadd : (⟨b, o, none⟩ : Addr).add j = ⟨b, o + j, none⟩ := by unfold Addr.add; split <;> simp_all
      rw [hadd]
      exact hc j _ (by simp [hj])
theorem lit_i {T e : TypeId} {i : TypeInfo} {z : Value} {n : Nat} {parts : Array (Nat × Value)} (xs : List Value) (hT : P.underlying T = some (.slice e)) (hi : P.info? e = some i) (hsz : i.size = 1) (hz : i.zero = some z) (h1 : ∀ v ∈ xs, v.cells = #[v]) (hn : xs.length = n) (hpos : 0 < n) (hsm : n ≤ 16777216)
    (hp : parts.toList = (xs.zipIdx 0).map fun x => (x.2, x.1))
    (hk : ∀ g w1, Ext w w1 → At w1 g (.cells xs.toArray e (0, 0)) → w.heap.size = g → w1.heap.size = g + 1 → K (.slice (some ⟨g, 0, none⟩) n n) w1) : DoV P (Instr.buildSlice T n parts) w K X := by
  have e1 := run_buildSlice (P := P) w T e n parts xs.toArray i z hT hi hz (by rw [hsz]; omega) (by rw [hsz]; omega) (by
    rw [hsz, hp]
    exact Great.fill_flat xs _ h1 (by simp [hn]))
  rw [DoV_ok e1]
  exact hk _ _ (Ext.alloc _ _) (by unfold At; exact heap_alloc_new w _) rfl (by simp)
theorem Own.of_lit {base g : Nat} {e : TypeId} {xs : List Value} (h : At w g (.cells xs.toArray e (0, 0))) (hb : base ≤ g) (hn : xs.length ≤ maxLen) : w.ownsRow base e 1 (.slice (some ⟨g, 0, none⟩) xs.length xs.length) xs.length xs :=
  ⟨by simp, .inr ⟨g, xs.length, _, rfl, hb, h, Nat.le_refl _, hn, by simp, by simp⟩⟩
theorem slice_arr {t e : TypeId} {n : Nat} {b : Nat} {i : TypeInfo} {xs : List Value} (ht : P.underlying t = some (.array n e)) (hi : P.info? e = some i) (hx : xs.length = n) {e' : TypeId} {f : Nat × Nat} (h : At w b (.cells xs.toArray e' f)) (hn : n ≤ maxLen)
    (hk : Sl w 1 (.slice (some ⟨b, 0, none⟩) n n) n xs → K (.slice (some ⟨b, 0, none⟩) n n) w) : DoV P (Instr.sliceAt t (.pointer (some ⟨b, 0, none⟩)) none none none) w K X := by
  have he : P.elem t = e := by simp [Program.elem, ht]
  have hl : P.arrayLen t = n := by simp [Program.arrayLen, ht]
  have e1 := run_sliceAt_array_all (P := P) w t ⟨b, 0, none⟩ (by rw [he, hl]; exact ht)
  rw [he, hl] at e1
  have hs : (sizeOf e).run P w = .ok i.size w := by simp [sizeOf, typeInfo, hi]
  rw [hs] at e1
  have e2 : slicedAt ⟨b, 0, none⟩ 0 n n i.size = .slice (some ⟨b, 0, none⟩) n n := by
    unfold slicedAt
    split
    · simp
    · simp [Addr.add]
  simp only [Result.andThen_ok, e2] at e1
  rw [DoV_ok e1]
  refine hk ⟨_, n, rfl, Nat.le_refl _, hn, by simpa using hx, .inr ⟨b, 0, rfl, h.lt, fun j u hu => ?_⟩⟩
  rw [h.cell, Nat.zero_add]; simpa using hu
theorem range_val {T e : TypeId} {i : TypeInfo} {sz n : Nat} {v : Value} {xs : List Value} {k k' : IntKind} (hT : P.underlying T = some (.slice e)) (hi : P.info? e = some i) (hsz : i.size = sz) (hpos : 0 < sz) (hv : Sl w sz v n xs) {l h : Nat} (hl : l ≤ h) (hh : h ≤ n) :
    ∃ v', Sl w sz v' (h - l) ((xs.take (h * sz)).drop (l * sz)) ∧ ∀ (w1 : World) (K : Value → World → Prop) (X : List PanicEntry → World → Prop), DoV P (Instr.sliceAt T v (some (.int k l)) (some (.int k' h)) none) w1 K X = K v' w1 := by
  have he := elem_of hT
  obtain ⟨a, cap, rfl, h1, h2, h3, h4⟩ := hv
  refine ⟨sliced a l h cap sz, sliced_sl hpos ⟨a, cap, rfl, h1, h2, h3, h4⟩ hl hh (by omega) (Nat.le_refl _), fun w1 K X => DoV_ok ?_⟩
  rw [run_sliceAt_slice w1 _ _ _ _ _ (by rw [he]; exact hT), run_slice_lh w1 T a n cap (by rw [he]; exact hT) k k' l h (by omega) (by omega) (by omega), he]
  simp [sizeOf, typeInfo, hi, hsz]
theorem upto_val {T e : TypeId} {i : TypeInfo} {sz n : Nat} {v : Value} {xs : List Value} {k : IntKind} (hT : P.underlying T = some (.slice e)) (hi : P.info? e = some i) (hsz : i.size = sz) (hpos : 0 < sz) (hv : Sl w sz v n xs) {h : Nat} (hh : h ≤ n) :
    ∃ v', Sl w sz v' h (xs.take (h * sz)) ∧ ∀ (w1 : World) (K : Value → World → Prop) (X : List PanicEntry → World → Prop), DoV P (Instr.sliceAt T v none (some (.int k h)) none) w1 K X = K v' w1 := by
  have he := elem_of hT
  obtain ⟨a, cap, rfl, h1, h2, h3, h4⟩ := hv
  refine ⟨sliced a 0 h cap sz, ?_, fun w1 K X => DoV_ok ?_⟩
  · have := sliced_sl (w := w) (m := cap) hpos ⟨a, cap, rfl, h1, h2, h3, h4⟩ (Nat.zero_le h) hh (by omega) (Nat.le_refl _)
    simpa using this
  · rw [run_sliceAt_slice w1 _ _ _ _ _ (by rw [he]; exact hT), run_slice_h w1 T a n cap (by rw [he]; exact hT) k h (by omega) (by omega), he]
    simp [sizeOf, typeInfo, hi, hsz]
theorem arr_val {t e : TypeId} {n : Nat} {v : Value} {xs : List Value} (ht : P.underlying t = some (.array n e)) (hpos : 0 < n) (hv : Sl w 1 v n xs) :
    ∃ b o, (∀ j u, xs[j]? = some u → w.cell? ⟨b, o + j, none⟩ = some u) ∧ b < w.heap.size ∧ ∀ (w1 : World) (K : Value → World → Prop) (X : List PanicEntry → World → Prop), DoV P (Instr.arrayAt t v) w1 K X = K (.pointer (some ⟨b, o, none⟩)) w1 := by
  obtain ⟨a, cap, rfl, h1, h2, h3, h4⟩ := hv
  rcases h4 with h4 | ⟨b, o, rfl, hlt, hc⟩
  · subst h4; simp at h3; omega
  · exact ⟨b, o, hc, hlt, fun w1 K X => DoV_ok (run_arrayAt w1 t e n _ n cap ht (Nat.le_refl _))⟩
end Sh
end Go.Proofs.YtoeblipchoglaaaGreatDoor
namespace Go.Proofs.YtoeblipchoglaaaGreatDoor
set_option maxRecDepth 100000
namespace Sh
open Go.RowKit
variable {P : Program} {w : World} {K : Value → World → Prop} {X : List PanicEntry → World → Prop}
theorem Br_i {b : Bool} {A B : Prop} (h1 : b = true → A) (h2 : b = false → B) : Br (.bool b) A B := by
  rw [Br_bool]; cases b <;> simp_all
theorem Gd_i {b want : Bool} {A B : Prop} (h1 : b = want → A) (h2 : b = (!want) → B) : Gd (.bool b) want A B := by
  rw [Gd_bool]; cases b <;> cases want <;> simp_all
theorem dec_t {p : Prop} [Decidable p] (h : decide p = true) : p := of_decide_eq_true h
theorem dec_f {p : Prop} [Decidable p] (h : decide p = false) : ¬ p := of_decide_eq_false h
theorem Sl.length {sz n : Nat} {v : Value} {xs : List Value} (h : Sl w sz v n xs) : xs.length = n * sz := by obtain ⟨_, _, _, _, _, h3, _⟩ := h; exact h3
theorem lit0_i {T e : TypeId} {i : TypeInfo} (hT : P.underlying T = some (.slice e)) (hi : P.info? e = some i)
    (hk : ∀ v w1, Ext w w1 → w1.ownsRow w.heap.size e 1 v 0 [] → w1.heap.size = w.heap.size + 1 → K v w1) : DoV P (Instr.buildSlice T 0 #[]) w K X := by
  have e1 : (Instr.buildSlice T 0 #[]).run P w = .ok (.slice (some ⟨w.heap.size, 0, none⟩) 0 0) (w.alloc (.cells #[] e)) := by
    simp [Instr.buildSlice, run_underlying hT, sizeOf, typeInfo, hi, Instr.fill, newRow, newObj, Sem.run]
    rw [show Array.range 0 = #[] by decide]; simp
  rw [DoV_ok e1]
  refine hk _ _ (Ext.alloc _ _) ⟨rfl, .inr ⟨w.heap.size, 0, #[], rfl, Nat.le_refl _, heap_alloc_new w _, Nat.le_refl _, Nat.zero_le _, rfl, rfl⟩⟩ (by simp)
theorem litn_i {T e : TypeId} {i : TypeInfo} {z : Value} {n : Nat} {parts : Array (Nat × Value)} (xs : List Value) (hT : P.underlying T = some (.slice e)) (hi : P.info? e = some i) (hsz : i.size = 1) (hz : i.zero = some z) (h1 : ∀ v ∈ xs, v.cells = #[v]) (hn : xs.length = n) (hpos : 0 < n) (hsm : n ≤ 16777216)
    (hp : parts.toList = (xs.zipIdx 0).map fun x => (x.2, x.1))
    (hk : ∀ v w1, Ext w w1 → w1.ownsRow w.heap.size e 1 v n xs → w1.heap.size = w.heap.size + 1 → K v w1) : DoV P (Instr.buildSlice T n parts) w K X := by
  refine lit_i xs hT hi hsz hz h1 hn hpos hsm hp fun g w1 x1 hat hg hs => ?_
  subst hn
  exact hk _ _ x1 (Own.of_lit hat (by omega) (by simp only [maxLen]; omega)) (by omega)
end Sh
open Sh Go.RowKit
theorem Own.off_own {w : World} {base base' : Nat} {e e' : TypeId} {sz sz' n n' : Nat} {v u : Value} {xs ys : List Value} (h : w.ownsRow base e sz v n xs) (h' : w.ownsRow base' e' sz' u n' ys) (hne : e ≠ e') : Off (fun k => v.ownBlock = some k) u := by
  intro k hk hv
  rcases h.2 with ⟨rfl, _⟩ | ⟨g, cap, cur, rfl, _, hg, _⟩
  · simp [Value.ownBlock] at hv
  · have hgk : g = k := by simpa [Value.ownBlock] using hv
    subst hgk
    exact Own.off_at h' (show At w g (.cells cur e (0, 0)) from hg) (Ne.symm hne) g hk rfl
theorem Sl.cells {w : World} {sz n : Nat} {v : Value} {xs : List Value} (h : Sl w sz v n xs) : v.cells = #[v] := by
  obtain ⟨a, cap, rfl, _⟩ := h; rfl
theorem Sl.one {w : World} {sz n : Nat} {v : Value} {xs : List Value} (h : Sl w sz v n xs) : v.oneCell' = true := by
  obtain ⟨a, cap, rfl, _⟩ := h; rfl
theorem gd_t {A B : Prop} (h : A) : Gd (.bool true) true A B := Gd_i (fun _ => h) fun h => by cases h
theorem br_f {A B : Prop} (h : B) : Br (.bool false) A B := Br_i (fun h => by cases h) fun _ => h
theorem br_t {A B : Prop} (h : A) : Br (.bool true) A B := Br_i (fun _ => h) fun h => by cases h
theorem gd_f {A B : Prop} (h : A) : Gd (.bool false) false A B := Gd_i (fun _ => h) fun h => by cases h
theorem tmod_nat {a : Int} {n : Nat} (ha : 0 ≤ a) : a.tmod (n : Int) = ((a.toNat % n : Nat) : Int) := by
  rw [Int.tmod_eq_emod_of_nonneg ha, Int.natCast_emod, Int.toNat_of_nonneg ha]
theorem un_neg {P : Program} {w : World} {K : Value → World → Prop} {X : List PanicEntry → World → Prop} {k : IntKind} {n : Int} : DoV P (Op.unary .neg (.int k n)) w K X = K (.int k (k.wrap (-n))) w := DoV_ok (by simp [Op.unary, Op.intArith])
theorem u64w (x : Int) : IntKind.u64.wrap x = x % 18446744073709551616 := by
  simp only [IntKind.wrap, IntKind.signed, IntKind.bits, Bool.false_and]
  rw [if_neg (by decide)]; rfl
theorem u8w (x : Int) : IntKind.u8.wrap x = x % 256 := by
  simp only [IntKind.wrap, IntKind.signed, IntKind.bits, Bool.false_and]
  rw [if_neg (by decide)]; rfl
theorem u8_nat (n : Nat) : IntKind.u8.wrap (n : Int) = ((UInt8.ofNat n).toNat : Int) := by rw [u8w]; simp [UInt8.toNat_ofNat']
theorem ofInt64 {n : Nat} : BitVec.ofInt 64 (n : Int) = BitVec.ofNat 64 n := by simp
theorem byte_or : ∀ x : Fin 256, IntKind.u8.wrap (BitVec.ofInt IntKind.u8.bits (x.val : Int) ||| BitVec.ofInt IntKind.u8.bits 128).toNat = ((x.val % 128 + 128 : Nat) : Int) := by decide +kernel
theorem byte_hi (u : Nat) : IntKind.u8.wrap (BitVec.ofInt IntKind.u8.bits (IntKind.u8.wrap u) ||| BitVec.ofInt IntKind.u8.bits 128).toNat = ((UInt8.ofNat (u % 128 + 128)).toNat : Int) := by
  have h := byte_or ⟨u % 256, by omega⟩
  simp only at h
  rw [u8w u, show ((u : Int) % 256) = ((u % 256 : Nat) : Int) by omega, h, ← u8_nat, u8w]; omega
theorem byte_128 (u : Nat) : IntKind.u8.wrap (IntKind.u8.wrap ((u : Int).tmod 128) + 128) = ((UInt8.ofNat (u % 128 + 128)).toNat : Int) := by
  rw [Int.tmod_eq_emod_of_nonneg (by omega), u8w, u8w]; simp [UInt8.toNat_ofNat']
end Go.Proofs.YtoeblipchoglaaaGreatDoor
namespace Go.Proofs.YtoeblipchoglaaaGreatDoor
set_option maxRecDepth 100000
namespace Ty
theorem bytes : Tryz.prog.underlying 26 = some (.slice 5) := by kernel_rfl
theorem u8 : Tryz.prog.underlying 5 = some (.int .u8) := by kernel_rfl
theorem u64 : Tryz.prog.underlying 61 = some (.int .u64) := by kernel_rfl
theorem int : Tryz.prog.underlying 3 = some (.int .i64) := by kernel_rfl
theorem str : Tryz.prog.underlying 9 = some .string := by kernel_rfl
theorem u8_info : (Tryz.prog.info? 5).map (fun i => (i.zero, i.size, i.bytes)) = some (some (.int .u8 0), 1, 1) := by kernel_rfl
theorem u8_agg (w : World) : (isAgg 5).run Tryz.prog w = .ok false w := by kernel_rfl
theorem u64_agg (w : World) : (isAgg 61).run Tryz.prog w = .ok false w := by kernel_rfl
theorem u64_size (w : World) : (sizeOf 61).run Tryz.prog w = .ok 1 w := by kernel_rfl
theorem u8_size (w : World) : (sizeOf 5).run Tryz.prog w = .ok 1 w := by kernel_rfl
theorem u64_zero (w : World) : (zeroValue 61).run Tryz.prog w = .ok (.int .u64 0) w := by kernel_rfl
theorem ints : Tryz.prog.underlying 91 = some (.slice 3) := by kernel_rfl
theorem int_info : (Tryz.prog.info? 3).map (fun i => (i.zero, i.size, i.bytes)) = some (some (.int .i64 0), 1, 8) := by kernel_rfl
theorem int_agg (w : World) : (isAgg 3).run Tryz.prog w = .ok false w := by kernel_rfl
theorem info_parts {t : TypeId} {z : Value} {s b : Nat} (h : (Tryz.prog.info? t).map (fun i => (i.zero, i.size, i.bytes)) = some (some z, s, b)) : ∃ i, Tryz.prog.info? t = some i ∧ i.zero = some z ∧ i.size = s ∧ i.bytes = b := by
  cases hi : Tryz.prog.info? t with
  | none => rw [hi] at h; simp at h
  | some i => rw [hi] at h; simp at h; exact ⟨i, rfl, h⟩
theorem u16 : Tryz.prog.underlying 29 = some (.int .u16) := by kernel_rfl
theorem u8_cells : Tryz.prog.cellsOf 5 = 1 := by kernel_rfl
theorem int_cells : Tryz.prog.cellsOf 3 = 1 := by kernel_rfl
theorem bool : Tryz.prog.underlying 4 = some .bool := by kernel_rfl
theorem int_size (w : World) : (sizeOf 3).run Tryz.prog w = .ok 1 w := by kernel_rfl
theorem u64_cells : Tryz.prog.cellsOf 61 = 1 := by kernel_rfl
theorem i32 : Tryz.prog.underlying 21 = some (.int .i32) := by kernel_rfl
theorem bool_agg (w : World) : (isAgg 4).run Tryz.prog w = .ok false w := by kernel_rfl
theorem bool_size (w : World) : (sizeOf 4).run Tryz.prog w = .ok 1 w := by kernel_rfl
theorem bool_cells : Tryz.prog.cellsOf 4 = 1 := by kernel_rfl
end Ty
end Go.Proofs.YtoeblipchoglaaaGreatDoor
namespace Go.Proofs.YtoeblipchoglaaaGreatDoor
set_option maxRecDepth 100000
open Sh Go.RowKit
def bv (l : List UInt8) : List Value := l.map fun b => Value.int .u8 b.toNat
def u64v (d : BitVec 64) : Value := .int .u64 d.toNat
theorem bv_get {l : List UInt8} {k : Nat} (h : k < l.length) : (bv l)[k]? = some (.int .u8 l[k].toNat) := by simp [bv, h]
theorem u64_wrap (x : BitVec 64) : IntKind.u64.wrap (x.toNat : Int) = x.toNat := by
  have := x.isLt
  simp only [IntKind.wrap, IntKind.signed, IntKind.bits, Bool.false_and]
  rw [if_neg (by decide)]
  omega
theorem take_get {l : List UInt8} {k : Nat} (h : k < l.length) : l.take (k + 1) = l.take k ++ [l[k]] := by rw [List.take_succ_eq_append_getElem h]
theorem i64_wrap {x : Int} (h1 : -9223372036854775808 ≤ x) (h2 : x ≤ 9223372036854775807) : IntKind.i64.wrap x = x := IntWalk.i64_in x ⟨h1, h2⟩

theorem conv_str {P : Program} {w : World} {K : Value → World → Prop} {X : List PanicEntry → World → Prop} {src dst e : TypeId} (hs : P.underlying src = some .string) (hd : P.underlying dst = some (.slice e)) (he : P.underlying e = some (.int .u8)) {s : ByteArray} (hsz : s.size ≤ 9223372036854775807)
    (hk : ∀ g c w1, Ext w w1 → w.heap.size = g → w1.heap.size = g + 1 → s.size ≤ c → (∃ cs f, At w1 g (.cells cs e f) ∧ cs.size = c ∧ (∀ j, j < c → w1.frozen? ⟨g, j, none⟩ = false)) → Sl w1 1 (.slice (some ⟨g, 0, none⟩) s.size c) s.data.toList.length (bv s.data.toList) → K (.slice (some ⟨g, 0, none⟩) s.size c) w1) :
    DoV P (convert src dst (.string s)) w K X := by
  rw [DoV_ok (run_bytes_of_string w src dst e s hs hd he)]
  have hge := grownCap_ge w s.size 0 e
  have hcm := grownCap_le_maxLen w s.size 0 e (by simp only [maxLen]; omega)
  generalize grownCap w s.size 0 e = c at hge hcm
  have hss : s.data.size = s.size := rfl
  have hsl : s.data.toList.length = s.size := rfl
  have hcsz : (bytesRow s c).size = c := by
    simp only [bytesRow, Array.size_append, Array.size_map, Array.size_replicate, hss]; omega
  have hat : At (w.drew.alloc (.cells (bytesRow s c) e ((bytesRow s c).size, (bytesRow s c).size + 1))) w.heap.size (.cells (bytesRow s c) e ((bytesRow s c).size, (bytesRow s c).size + 1)) := by
    unfold At; exact heap_alloc_new w.drew _
  refine hk _ c _ ((Ext.drew w).trans (Ext.alloc w.drew _)) rfl (by simp) hge ⟨_, _, hat, hcsz, fun j hj => ?_⟩ ⟨some ⟨w.heap.size, 0, none⟩, c, by rw [hsl], by rw [hsl]; exact hge, hcm, by simp [bv], .inr ⟨w.heap.size, 0, rfl, by simp, fun j u hu => ?_⟩⟩
  · unfold At at hat
    simp only [World.frozen?, hat]
    rw [hcsz]
    simp; omega
  · rw [hat.cell, Nat.zero_add]
    have hj : j < s.data.toList.length := by
      have := (List.getElem?_eq_some_iff.1 hu).1
      simpa [bv] using this
    rw [bv_get hj] at hu
    cases hu
    simp only [bytesRow]
    have hj2 : j < s.data.size := by simpa using hj
    rw [Array.getElem?_append_left (by simpa using hj2), Array.getElem?_map, Array.getElem?_eq_getElem hj2]
    simp

theorem index_str {t : TypeId} {s : ByteArray} {w : World} {K : Value → World → Prop} {X : List PanicEntry → World → Prop} {P : Program} {k : IntKind} {i : Nat} (h : P.underlying t = some .string) (hi : i < s.data.toList.length) :
    DoV P (Instr.index t (.string s) (.int k i)) w K X = K (.int .u8 s.data.toList[i].toNat) w := by
  have hi2 : i < s.size := hi
  refine DoV_ok ?_
  rw [run_index_string w t s k i h, dif_pos ⟨by omega, by omega⟩]
  rfl
def iv (l : List Int) : List Value := l.map fun n => Value.int .i64 n
theorem iv_get {l : List Int} {k : Nat} (h : k < l.length) : (iv l)[k]? = some (.int .i64 l[k]) := by simp [iv, h]
theorem bv_length (a : List UInt8) : (bv a).length = a.length := by simp [bv]
theorem iv_length (a : List Int) : (iv a).length = a.length := by simp [iv]
theorem bv_one (a : List UInt8) : ∀ u ∈ bv a, u.oneCell' = true := by simp [bv, Value.oneCell']
theorem iv_one (a : List Int) : ∀ u ∈ iv a, u.oneCell' = true := by simp [iv, Value.oneCell']
theorem app_byte {base : Nat} {w : World} {K : Value → World → Prop} {X : List PanicEntry → World → Prop} {v : Value} {l : List UInt8} {c : UInt8} {cs : Array Bool} (hown : w.ownsRow base 5 1 v l.length (bv l)) (hl : l.length < 100000000000000) (hb : base ≤ w.heap.size)
    (hk : ∀ v' w1, w1.ownsRow base 5 1 v' (l ++ [c]).length (bv (l ++ [c])) → Mod (base ≤ ·) w w1 → K v' w1) :
    DoV Tryz.prog (Instr.buildSlice 26 1 #[(0, .int .u8 c.toNat)]) w (fun s w1 => CallB Tryz.prog .append #[26, 26] 26 cs #[v, s] w1 K X) X := by
  obtain ⟨i, hi, hz, hs, hby⟩ := Ty.info_parts Ty.u8_info
  refine lit1_i Ty.bytes hi hs hz rfl rfl fun g w1 he hat hg _ => ?_
  have hs1 := he.size
  refine app_own Ty.bytes hi hz hs hby rfl (by omega) (Own.ext hown he) (Sl.of_lit hat) (by simp [Value.oneCell']) (by omega) (by omega) (by omega) fun v' w2 h1 hm _ => ?_
  refine hk v' w2 (by simpa [bv] using h1) ((Mod.of_ext (S := fun _ => False) he).comp hm (fun _ _ h => h.elim) fun k hk h => ?_)
  rcases hown.2 with ⟨rfl, _⟩ | ⟨g', cap, cur, rfl, hgb, _⟩
  · simp [Value.ownBlock] at h
  · have : g' = k := by simpa [Value.ownBlock] using h
    omega
theorem app_bytes {base : Nat} {w : World} {K : Value → World → Prop} {X : List PanicEntry → World → Prop} {v x : Value} {l m : List UInt8} {cs : Array Bool} (hown : w.ownsRow base 5 1 v l.length (bv l)) (hx : Sl w 1 x m.length (bv m)) (hl : l.length + m.length < 100000000000000) (hb : base ≤ w.heap.size)
    (hk : ∀ v' w1, w1.ownsRow base 5 1 v' (l ++ m).length (bv (l ++ m)) → Mod (fun k => v.ownBlock = some k) w w1 → K v' w1) :
    CallB Tryz.prog .append #[26, 26] 26 cs #[v, x] w K X := by
  obtain ⟨i, hi, hz, hs, hby⟩ := Ty.info_parts Ty.u8_info
  refine app_own Ty.bytes hi hz hs hby rfl (by omega) hown hx (bv_one _) (by omega) (by omega) hb fun v' w2 h1 hm _ => ?_
  exact hk v' w2 (by simpa [bv] using h1) hm
theorem iv_cells (l : List Int) : ∀ v ∈ iv l, v.cells = #[v] := by
  intro v hv; simp only [iv, List.mem_map] at hv; obtain ⟨n, _, rfl⟩ := hv; rfl
theorem bv_cells (l : List UInt8) : ∀ v ∈ bv l, v.cells = #[v] := by
  intro v hv; simp only [bv, List.mem_map] at hv; obtain ⟨n, _, rfl⟩ := hv; rfl
theorem lit_ints {w : World} {K : Value → World → Prop} {X : List PanicEntry → World → Prop} {n : Nat} {parts : Array (Nat × Value)} (l : List Int) (hn : l.length = n) (hpos : 0 < n) (hsm : n ≤ 16777216) (hp : parts.toList = ((iv l).zipIdx 0).map fun x => (x.2, x.1))
    (hk : ∀ v w1, Ext w w1 → w1.ownsRow w.heap.size 3 1 v l.length (iv l) → w1.heap.size = w.heap.size + 1 → K v w1) : DoV Tryz.prog (Instr.buildSlice 91 n parts) w K X := by
  obtain ⟨i, hi, hz, hs, hby⟩ := Ty.info_parts Ty.int_info
  refine litn_i (iv l) Ty.ints hi hs hz (iv_cells l) (by rw [iv_length]; exact hn) hpos hsm hp fun v w1 x1 h1 h2 => hk v w1 x1 ?_ h2
  rw [hn]; exact h1
theorem lit_bytes {w : World} {K : Value → World → Prop} {X : List PanicEntry → World → Prop} {n : Nat} {parts : Array (Nat × Value)} (l : List UInt8) (hn : l.length = n) (hpos : 0 < n) (hsm : n ≤ 16777216) (hp : parts.toList = ((bv l).zipIdx 0).map fun x => (x.2, x.1))
    (hk : ∀ v w1, Ext w w1 → w1.ownsRow w.heap.size 5 1 v l.length (bv l) → w1.heap.size = w.heap.size + 1 → K v w1) : DoV Tryz.prog (Instr.buildSlice 26 n parts) w K X := by
  obtain ⟨i, hi, hz, hs, hby⟩ := Ty.info_parts Ty.u8_info
  refine litn_i (bv l) Ty.bytes hi hs hz (bv_cells l) (by rw [bv_length]; exact hn) hpos hsm hp fun v w1 x1 h1 h2 => hk v w1 x1 ?_ h2
  rw [hn]; exact h1
theorem lit_nobytes {w : World} {K : Value → World → Prop} {X : List PanicEntry → World → Prop}
    (hk : ∀ v w1, Ext w w1 → w1.ownsRow w.heap.size 5 1 v ([] : List UInt8).length (bv []) → w1.heap.size = w.heap.size + 1 → K v w1) : DoV Tryz.prog (Instr.buildSlice 26 0 #[]) w K X := by
  obtain ⟨i, hi, hz, hs, hby⟩ := Ty.info_parts Ty.u8_info
  exact lit0_i Ty.bytes hi hk
theorem app_ints {base : Nat} {w : World} {K : Value → World → Prop} {X : List PanicEntry → World → Prop} {v x : Value} {l m : List Int} {cs : Array Bool} (hown : w.ownsRow base 3 1 v l.length (iv l)) (hx : Sl w 1 x m.length (iv m)) (hl : l.length + m.length < 10000000000000) (hb : base ≤ w.heap.size)
    (hk : ∀ v' w1, w1.ownsRow base 3 1 v' (l ++ m).length (iv (l ++ m)) → Mod (fun k => v.ownBlock = some k) w w1 → K v' w1) :
    CallB Tryz.prog .append #[91, 91] 91 cs #[v, x] w K X := by
  obtain ⟨i, hi, hz, hs, hby⟩ := Ty.info_parts Ty.int_info
  refine app_own Ty.ints hi hz hs hby rfl (by omega) hown hx (iv_one _) (by omega) (by omega) hb fun v' w2 h1 hm _ => ?_
  exact hk v' w2 (by simpa [iv] using h1) hm
theorem str_conv {w : World} {K : Value → World → Prop} {X : List PanicEntry → World → Prop} {v : Value} {l : List UInt8} (hv : Sl w 1 v l.length (bv l)) :
    DoV Tryz.prog (convert 26 9 v) w K X = K (.string ⟨l.toArray⟩) w := str_of Ty.bytes Ty.u8 Ty.str hv
theorem bv_drop (b : List UInt8) (k : Nat) : (bv b).drop (k * 1) = bv (b.drop k) := by simp [bv, List.map_drop]
theorem bv_take (b : List UInt8) (k : Nat) : (bv b).take (k * 1) = bv (b.take k) := by simp [bv, List.map_take]
theorem up_bytes {w : World} {K : Value → World → Prop} {X : List PanicEntry → World → Prop} {v : Value} {b : List UInt8} {k : Nat} (hv : Sl w 1 v b.length (bv b)) (hk : k ≤ b.length)
    (hK : ∀ v', Sl w 1 v' (b.take k).length (bv (b.take k)) → K v' w) : DoV Tryz.prog (Instr.sliceAt 26 v none (some (.int .i64 k)) none) w K X := by
  obtain ⟨i8, hi8, hz8, hs8, _⟩ := Ty.info_parts Ty.u8_info
  refine slice_upto Ty.bytes hi8 hs8 (by decide) hv hk fun v' h' _ => hK v' ?_
  rw [bv_take] at h'
  rw [List.length_take, Nat.min_eq_left hk]; exact h'
section
variable {P : Program} {w : World} {K : Value → World → Prop} {X : List PanicEntry → World → Prop}
theorem u64_eql {t : TypeId} {ox oy : Operand} {a b : BitVec 64} : DoV P (binS .eql t ox oy (u64v a) (u64v b)) w K X = K (.bool (decide (a = b))) w := by
  rw [u64v, u64v, bin_eql]
  congr 2
  have : ((a.toNat : Int) = b.toNat) ↔ a = b := ⟨fun h => BitVec.eq_of_toNat_eq (by omega), fun h => by rw [h]⟩
  simp only [this]
theorem u64_neq {t : TypeId} {ox oy : Operand} {a b : BitVec 64} : DoV P (binS .neq t ox oy (u64v a) (u64v b)) w K X = K (.bool (!decide (a = b))) w := by
  rw [u64v, u64v, bin_neq]
  congr 3
  have : ((a.toNat : Int) = b.toNat) ↔ a = b := ⟨fun h => BitVec.eq_of_toNat_eq (by omega), fun h => by rw [h]⟩
  simp only [this]
theorem bool_eql {t : TypeId} (ht : P.underlying t = some .bool) {ox oy : Operand} {a b : Bool} : DoV P (binS .eql t ox oy (.bool a) (.bool b)) w K X = K (.bool (a == b)) w := DoV_ok (by simp [binS, eqGuard, run_eql_bool w t a b ht])
theorem det_ret {f : FuncId} {args : Array Value} {w0 : World} {rest : Value → (World → Prop) → Prop} (c : Value) (h : ∀ w1, Ext w0 w1 → Ret P f args w1 fun r w' => r = c ∧ Ext w1 w') (hk : rest c fun _ => True) :
    DetOp Ext Ext w0 (fun w1 K => CallF P f args w1 K X) rest :=
  ⟨c, fun _ => True, fun _ _ _ _ => trivial, fun w1 h1 => callF_ret (h w1 h1) fun _ _ hq => ⟨hq.1, hq.2, trivial⟩, hk⟩
end
def TrueQ (w : World) (r : Value) (w' : World) : Prop := r = .bool true ∧ Ext w w'
theorem u64lit (d : BitVec 64) (n : Int) (h : (d.toNat : Int) = n) : Value.int .u64 n = u64v d := by rw [u64v, h]
end Go.Proofs.YtoeblipchoglaaaGreatDoor
