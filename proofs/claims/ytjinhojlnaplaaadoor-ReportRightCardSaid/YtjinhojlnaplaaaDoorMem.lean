/- Memory: what stays as it was, blocks known whole, slices that are read, rows that are built. No program in sight. -/
import Derived.Test.YtjinhojlnaplaaaDoorRules
import Derived.Laws.BytesArg
import Derived.Laws.IdiomStrings
import Derived.Laws.AppendOwn
import Derived.Laws.OwnMore
import Derived.Laws.Build
import Derived.Laws.Tables
import Derived.Laws.Slices
namespace Go.Proofs.YtjinhojlnaplaaaDoor
set_option maxRecDepth 100000
namespace Sh
open Go.RowKit
variable {P : Program} {w w' : World} {K : Value → World → Prop} {X : List PanicEntry → World → Prop}

/-- Of the old blocks only those in S may have turned. -/
structure Mod (S : Nat → Prop) (w w' : World) : Prop where
  os : w'.os = w.os
  tape : w'.tape = w.tape
  output : w'.output = w.output
  size : w.heap.size ≤ w'.heap.size
  block : ∀ k, k < w.heap.size → ¬ S k → w'.heap[k]? = w.heap[k]?
theorem Mod.refl (S : Nat → Prop) (w : World) : Mod S w w := ⟨rfl, rfl, rfl, Nat.le_refl _, fun _ _ _ => rfl⟩
/-- First a change of those in S, then one of those in T; behind it of the old ones those in U. -/
theorem Mod.comp {S T U : Nat → Prop} {a b c : World} (h : Mod S a b) (h' : Mod T b c) (hs : ∀ k, k < a.heap.size → S k → U k) (ht : ∀ k, k < a.heap.size → T k → U k) : Mod U a c :=
  ⟨h'.os.trans h.os, h'.tape.trans h.tape, h'.output.trans h.output, Nat.le_trans h.size h'.size, fun k hk hu =>
    (h'.block k (Nat.lt_of_lt_of_le hk h.size) fun hh => hu (ht k hk hh)).trans (h.block k hk fun hh => hu (hs k hk hh))⟩
theorem Mod.trans {S : Nat → Prop} {a b c : World} (h : Mod S a b) (h' : Mod S b c) : Mod S a c := h.comp h' (fun _ _ h => h) (fun _ _ h => h)
theorem Mod.mono {S T : Nat → Prop} (h : Mod S w w') (hs : ∀ k, k < w.heap.size → S k → T k) : Mod T w w' := ⟨h.os, h.tape, h.output, h.size, fun k hk hn => h.block k hk fun hh => hn (hs k hk hh)⟩
theorem Mod.of_ext {S : Nat → Prop} (h : Ext w w') : Mod S w w' := ⟨h.os, h.tape, h.output, h.size, fun k hk _ => h.block k hk⟩
theorem Mod.ext {S : Nat → Prop} (h : Mod S w w') (hs : ∀ k, k < w.heap.size → ¬ S k) : Ext w w' := ⟨h.os, h.tape, h.output, h.size, fun k hk => h.block k hk (hs k hk)⟩
theorem Mod.new (h : Mod (w.heap.size ≤ ·) w w') : Ext w w' := h.ext fun k hk h => by omega
theorem Mod.setCell (a : Addr) (v : Value) : Mod (· = a.block) w (w.setCell a v) := ⟨rfl, rfl, rfl, by simp, fun k _ hk => Below.heap_setCell _ _ _ _ hk⟩
theorem Mod.grown {row : Option Nat} (h : w.grownBy w' row) : Mod (fun k => row = some k) w w' := ⟨h.os, h.tape, h.output, h.size, fun k hk hn => h.block k hk fun e => hn e.symm⟩

/-- Block b holds just this. -/
def At (w : World) (b : Nat) (o : Obj) : Prop := w.heap[b]? = some o
theorem At.lt {b : Nat} {o : Obj} (h : At w b o) : b < w.heap.size := (Array.getElem?_eq_some_iff.1 h).1
theorem At.mod {S : Nat → Prop} {b : Nat} {o : Obj} (h : At w b o) (hm : Mod S w w') (hs : ¬ S b) : At w' b o := (hm.block b h.lt hs).trans h
theorem At.ext {b : Nat} {o : Obj} (h : At w b o) (hm : Ext w w') : At w' b o := (hm.block b h.lt).trans h
theorem At.cell {b : Nat} {cs : Array Value} {e : TypeId} {f : Nat × Nat} (h : At w b (.cells cs e f)) (o : Nat) : w.cell? ⟨b, o, none⟩ = cs[o]? := by
  unfold At at h; simp [World.cell?, h]
theorem At.free {b : Nat} {cs : Array Value} {e : TypeId} (h : At w b (.cells cs e (0, 0))) (o : Nat) : w.frozen? ⟨b, o, none⟩ = false := by
  unfold At at h; simp [World.frozen?, h]
theorem At.inj {b b' : Nat} {cs cs' : Array Value} {e e' : TypeId} {f f' : Nat × Nat} (h : At w b (.cells cs e f)) (h' : At w b' (.cells cs' e' f')) (hne : e ≠ e') : b ≠ b' := by
  rintro rfl
  unfold At at h h'
  rw [h] at h'
  simp only [Option.some.injEq, Obj.cells.injEq] at h'
  exact hne h'.2.1
theorem At.set {b : Nat} {cs : Array Value} {e : TypeId} {f : Nat × Nat} (h : At w b (.cells cs e f)) (o : Nat) (v : Value) : At (w.setCell ⟨b, o, none⟩ v) b (.cells (cs.setIfInBounds o v) e f) := by
  unfold At at h ⊢
  simp only [World.setCell, Array.getElem?_modify, if_true, h, Option.map_some]
  rfl

/-- The block in which a slice lies is none of S. -/
def Off (S : Nat → Prop) (v : Value) : Prop := ∀ k, v.ownBlock = some k → ¬ S k
theorem Sl.mod {S : Nat → Prop} {sz n : Nat} {v : Value} {xs : List Value} (h : Sl w sz v n xs) (hm : Mod S w w') (hs : Off S v) : Sl w' sz v n xs := by
  obtain ⟨a, cap, rfl, h1, h2, h3, h4⟩ := h
  exact ⟨a, cap, rfl, h1, h2, h3, h4.same hm.size fun b o ha hlt => hm.block b hlt (hs b (by subst ha; rfl))⟩
theorem Sl.mod_ne {S : Nat → Prop} {sz n : Nat} {v : Value} {xs : List Value} (h : Sl w sz v n xs) (hm : Mod S w w') (hs : xs ≠ [] → Off S v) : Sl w' sz v n xs := by
  obtain ⟨a, cap, rfl, h1, h2, h3, h4⟩ := h
  refine ⟨a, cap, rfl, h1, h2, h3, ?_⟩
  by_cases hx : xs = []
  · exact .inl hx
  · exact h4.same hm.size fun b o ha hlt => hm.block b hlt (hs hx b (by subst ha; rfl))
theorem Sl.old {sz n : Nat} {v : Value} {xs : List Value} (h : Sl w sz v n xs) (hx : xs ≠ []) {k : Nat} (hk : v.ownBlock = some k) : k < w.heap.size := by
  obtain ⟨a, cap, rfl, h1, h2, h3, h4⟩ := h
  rcases h4 with h4 | ⟨b, o, rfl, hlt, _⟩
  · exact absurd h4 hx
  · have : b = k := by simpa [Value.ownBlock] using hk
    omega
theorem Off.none (S : Nat → Prop) (n c : Nat) : Off S (.slice none n c) := fun k h => by simp [Value.ownBlock] at h
/-- The block of a slice that is there is an old one, if the slice has an element. -/
theorem Own.mod {S : Nat → Prop} {base : Nat} {e : TypeId} {sz n : Nat} {v : Value} {xs : List Value} (h : w.ownsRow base e sz v n xs) (hm : Mod S w w') (hs : Off S v) : w'.ownsRow base e sz v n xs := by
  refine ⟨h.1, ?_⟩
  rcases h.2 with hn | ⟨g, cap, cur, rfl, hb, hgg, rest⟩
  · exact .inl hn
  · refine .inr ⟨g, cap, cur, rfl, hb, ?_, rest⟩
    rw [hm.block g (Array.getElem?_eq_some_iff.1 hgg).1 (hs g rfl)]
    exact hgg
theorem Own.ext {base : Nat} {e : TypeId} {sz n : Nat} {v : Value} {xs : List Value} (h : w.ownsRow base e sz v n xs) (hm : Ext w w') : w'.ownsRow base e sz v n xs :=
  Own.mod (S := fun _ => False) h (.of_ext hm) fun _ _ h => h
theorem Own.mono {base base' : Nat} {e : TypeId} {sz n : Nat} {v : Value} {xs : List Value} (h : w.ownsRow base e sz v n xs) (hb : base' ≤ base) : w.ownsRow base' e sz v n xs := by
  refine ⟨h.1, ?_⟩
  rcases h.2 with hn | ⟨g, cap, cur, rfl, hg, rest⟩
  · exact .inl hn
  · exact .inr ⟨g, cap, cur, rfl, by omega, rest⟩

theorem Own.block {base : Nat} {e : TypeId} {sz n : Nat} {v : Value} {xs : List Value} (h : w.ownsRow base e sz v n xs) {k : Nat} (hk : v.ownBlock = some k) : base ≤ k ∧ k < w.heap.size := by
  rcases h.2 with ⟨rfl, _⟩ | ⟨g', cap, cur, rfl, hgb, hg, _⟩
  · simp [Value.ownBlock] at hk
  · have : g' = k := by simpa [Value.ownBlock] using hk
    subst this
    exact ⟨hgb, (Array.getElem?_eq_some_iff.1 hg).1⟩
theorem Own.off_at {base : Nat} {e e' : TypeId} {sz n : Nat} {v : Value} {xs : List Value} {b : Nat} {cs : Array Value} {f : Nat × Nat} (h : w.ownsRow base e sz v n xs) (hat : At w b (.cells cs e' f)) (hne : e ≠ e') : Off (· = b) v := by
  intro k hk hkb
  subst hkb
  rcases h.2 with ⟨rfl, _⟩ | ⟨g', cap, cur, rfl, hgb, hg, _⟩
  · simp [Value.ownBlock] at hk
  · have : g' = k := by simpa [Value.ownBlock] using hk
    subst this
    exact At.inj (show At w g' (.cells cur e (0, 0)) from hg) hat hne rfl
theorem Own.nil (w : World) (base : Nat) (e : TypeId) (sz : Nat) : w.ownsRow base e sz (.slice none 0 0) 0 [] := ⟨by simp, .inl ⟨rfl, rfl⟩⟩
theorem loadVar_at {t : TypeId} {b o : Nat} {cs : Array Value} {e : TypeId} {f : Nat × Nat} {u : Value} (ht : ∀ w, (isAgg t).run P w = .ok false w) (h : At w b (.cells cs e f)) (hu : cs[o]? = some u) : (loadVar t ⟨b, o, none⟩).run P w = .ok u w := by
  have hc : w.cell? ⟨b, o, none⟩ = some u := by rw [h.cell]; exact hu
  simp [loadVar, ht, load, Sem.run, hc]

/-! ### variables of one cell -/
theorem alloc_i {t : TypeId} {z : Value} (hz : ∀ w, (zeroValue t).run P w = .ok z w) {old : Value} (hk : ∀ b w1, Ext w w1 → At w1 b (.cells z.cells t (0, 0)) → w.heap.size = b → w1.heap.size = b + 1 → K (.pointer (some ⟨b, 0, none⟩)) w1) :
    DoV P (Instr.alloc t true old) w K X := by
  have e : (Instr.alloc t true old).run P w = .ok (.pointer (some ⟨w.heap.size, 0, none⟩)) (w.alloc (.cells z.cells t)) := by
    cases old <;> simp [Instr.alloc, hz, newVar, newRow, newObj, Sem.run]
  rw [DoV_ok e]
  exact hk _ _ (Ext.alloc _ _) (by unfold At; exact heap_alloc_new w _) rfl (by simp)
theorem load_i {t : TypeId} {b o : Nat} {cs : Array Value} {e : TypeId} {f : Nat × Nat} {u : Value} (ht : ∀ w, (isAgg t).run P w = .ok false w) (h : At w b (.cells cs e f)) (hu : cs[o]? = some u) (hk : K u w) :
    DoV P (Instr.loadAt t (.pointer (some ⟨b, o, none⟩))) w K X := by
  rw [load_cell ht (by rw [h.cell]; exact hu)]; exact hk
theorem store_i {t : TypeId} {b o : Nat} {cs : Array Value} {e : TypeId} {v : Value} (ht : ∀ w, (sizeOf t).run P w = .ok 1 w) (h : At w b (.cells cs e (0, 0))) (ho : o < cs.size) (hv : v.oneCell' = true)
    (hk : ∀ w1, Mod (· = b) w w1 → At w1 b (.cells (cs.setIfInBounds o v) e (0, 0)) → w1.heap.size = w.heap.size → K undef w1) : DoU P (Instr.storeAt t (.pointer (some ⟨b, o, none⟩)) v) w K X := by
  have hcs : v.cells = #[v] := by cases v <;> first | rfl | exact absurd hv (by simp [Value.oneCell'])
  have e : (Instr.storeAt t (.pointer (some ⟨b, o, none⟩)) v).run P w = .ok () (w.setCell ⟨b, o, none⟩ v) := by
    have h1 : w.cell? ⟨b, o, none⟩ = some cs[o] := by rw [h.cell]; simp [ho]
    simp [Instr.storeAt, Instr.sureAddr, storeVar, hcs, ht, storeCells, Addr.add, run_store P w _ v .plain hv, h1, h.free]
  rw [DoU_ok e]
  exact hk _ (Mod.setCell ⟨b, o, none⟩ v) (h.set o v) (by simp)

theorem store_x {t : TypeId} {b o : Nat} {cs : Array Value} {e : TypeId} {v x : Value} (ht : ∀ w, (sizeOf t).run P w = .ok 1 w) (h : At w b (.cells cs e (0, 0))) (ho : o < cs.size) (hcs : v.cells = #[x]) (hv : x.oneCell' = true)
    (hk : ∀ w1, Mod (· = b) w w1 → At w1 b (.cells (cs.setIfInBounds o x) e (0, 0)) → w1.heap.size = w.heap.size → K undef w1) : DoU P (Instr.storeAt t (.pointer (some ⟨b, o, none⟩)) v) w K X := by
  have e : (Instr.storeAt t (.pointer (some ⟨b, o, none⟩)) v).run P w = .ok () (w.setCell ⟨b, o, none⟩ x) := by
    have h1 : w.cell? ⟨b, o, none⟩ = some cs[o] := by rw [h.cell]; simp [ho]
    simp [Instr.storeAt, Instr.sureAddr, storeVar, hcs, ht, storeCells, Addr.add, run_store P w _ x .plain hv, h1, h.free]
  rw [DoU_ok e]
  exact hk _ (Mod.setCell ⟨b, o, none⟩ x) (h.set o x) (by simp)
theorem build_i {t : TypeId} {parts : Array (Nat × Value)} {cells : Array Value} (h : P.built t parts.toList = some cells) : DoV P (Instr.build t parts) w K X = K (.agg cells) w := DoV_ok (run_build w t parts cells h)
theorem iface_i {t : TypeId} {v : Value} (h : P.concrete t = true) : DoV P (Instr.makeInterface t v) w K X = K (.iface t v) w := DoV_ok (run_makeInterface w t v h)
theorem panic_i {t : TypeId} {v : Value} : DoV P (Instr.panic (.iface t v)) w K X = X [{ v := .iface t v, recovered := false }] w := DoV_panic (run_panic_iface t v w)
theorem nil_ptr {a : Addr} : NilC P (.pointer (some a)) w K X = K (.pointer (some a)) w := by simp [NilC, Do, nilS]

/-! ### parts of slices -/
theorem elem_of {T e : TypeId} (hT : P.underlying T = some (.slice e)) : P.elem T = e := by simp [Program.elem, hT]
theorem sliced_sl {sz n l h m cap : Nat} {a : Option Addr} {xs : List Value} (_hpos : 0 < sz) (hv : Sl w sz (.slice a n cap) n xs) (hl : l ≤ h) (hh : h ≤ n) (hm : h ≤ m) (hc : m ≤ cap) : Sl w sz (sliced a l h m sz) (h - l) ((xs.take (h * sz)).drop (l * sz)) := by
  obtain ⟨a', cap', he, h1, h2, h3, h4⟩ := hv
  cases he
  refine ⟨_, _, rfl, by omega, by simp only [maxLen] at h2 ⊢; omega, ?_, ?_⟩
  · rw [List.length_drop, List.length_take, h3, Nat.min_eq_left (Nat.mul_le_mul_right sz hh), Nat.sub_mul]
  · by_cases hml : m = l
    · refine .inl ?_
      have : h = l := by omega
      subst this
      exact List.drop_eq_nil_of_le (by rw [List.length_take]; omega)
    · rw [if_neg hml]
      rcases h4 with h4 | ⟨b, o, rfl, hlt, hcell⟩
      · subst h4; simp [Rd]
      · refine .inr ⟨b, o + l * sz, ?_, hlt, fun j u hu => ?_⟩
        · simp only [Option.map_some, Addr.add, Option.some.injEq]
          split <;> simp_all
        · rw [List.getElem?_drop, List.getElem?_take] at hu
          split at hu
          · rw [Nat.add_assoc]; exact hcell _ _ hu
          · cases hu
theorem sliced_own {a : Option Addr} {l h m sz n cap k : Nat} (hk : (sliced a l h m sz).ownBlock = some k) : (Value.slice a n cap).ownBlock = some k := by
  unfold sliced at hk
  cases a with
  | none => split at hk <;> simp [Value.ownBlock] at hk
  | some a =>
    split at hk
    · exact hk
    · simp only [Value.ownBlock, Option.map_some, Addr.add] at hk ⊢
      split at hk <;> exact hk
section
variable {T e : TypeId} {i : TypeInfo} {sz n : Nat} {v : Value} {xs : List Value} {k k' k'' : IntKind}
theorem slice_from (hT : P.underlying T = some (.slice e)) (hi : P.info? e = some i) (hsz : i.size = sz) (hpos : 0 < sz) (hv : Sl w sz v n xs) {l : Nat} (hl : l ≤ n)
    (hk : ∀ v', Sl w sz v' (n - l) (xs.drop (l * sz)) → (∀ b, v'.ownBlock = some b → v.ownBlock = some b) → K v' w) : DoV P (Instr.sliceAt T v (some (.int k l)) none none) w K X := by
  have he := elem_of hT
  obtain ⟨a, cap, rfl, h1, h2, h3, h4⟩ := hv
  refine DoV_i (v := sliced a l n cap sz) (w' := w) ?_ (hk _ ?_ fun b => sliced_own)
  · rw [run_sliceAt_slice w _ _ _ _ _ (by rw [he]; exact hT), run_slice_l w T a n cap (by rw [he]; exact hT) k l (by omega) (by omega), he]
    simp [sizeOf, typeInfo, hi, hsz]
  · have := sliced_sl (w := w) (m := cap) hpos ⟨a, cap, rfl, h1, h2, h3, h4⟩ hl (Nat.le_refl n) h1 (Nat.le_refl _)
    rw [List.take_of_length_le (by omega)] at this
    exact this
theorem slice_upto (hT : P.underlying T = some (.slice e)) (hi : P.info? e = some i) (hsz : i.size = sz) (hpos : 0 < sz) (hv : Sl w sz v n xs) {h : Nat} (hh : h ≤ n)
    (hk : ∀ v', Sl w sz v' h (xs.take (h * sz)) → (∀ b, v'.ownBlock = some b → v.ownBlock = some b) → K v' w) : DoV P (Instr.sliceAt T v none (some (.int k h)) none) w K X := by
  have he := elem_of hT
  obtain ⟨a, cap, rfl, h1, h2, h3, h4⟩ := hv
  refine DoV_i (v := sliced a 0 h cap sz) (w' := w) ?_ (hk _ ?_ fun b => sliced_own)
  · rw [run_sliceAt_slice w _ _ _ _ _ (by rw [he]; exact hT), run_slice_h w T a n cap (by rw [he]; exact hT) k h (by omega) (by omega), he]
    simp [sizeOf, typeInfo, hi, hsz]
  · have := sliced_sl (w := w) (m := cap) hpos ⟨a, cap, rfl, h1, h2, h3, h4⟩ (Nat.zero_le h) hh (by omega) (Nat.le_refl _)
    simpa using this
theorem slice_range (hT : P.underlying T = some (.slice e)) (hi : P.info? e = some i) (hsz : i.size = sz) (hpos : 0 < sz) (hv : Sl w sz v n xs) {l h : Nat} (hl : l ≤ h) (hh : h ≤ n)
    (hk : ∀ v', Sl w sz v' (h - l) ((xs.take (h * sz)).drop (l * sz)) → (∀ b, v'.ownBlock = some b → v.ownBlock = some b) → K v' w) : DoV P (Instr.sliceAt T v (some (.int k l)) (some (.int k' h)) none) w K X := by
  have he := elem_of hT
  obtain ⟨a, cap, rfl, h1, h2, h3, h4⟩ := hv
  refine DoV_i (v := sliced a l h cap sz) (w' := w) ?_ (hk _ ?_ fun b => sliced_own)
  · rw [run_sliceAt_slice w _ _ _ _ _ (by rw [he]; exact hT), run_slice_lh w T a n cap (by rw [he]; exact hT) k k' l h (by omega) (by omega) (by omega), he]
    simp [sizeOf, typeInfo, hi, hsz]
  · exact sliced_sl (w := w) (m := cap) hpos ⟨a, cap, rfl, h1, h2, h3, h4⟩ hl hh (by omega) (Nat.le_refl _)
theorem slice_upto3 (hT : P.underlying T = some (.slice e)) (hi : P.info? e = some i) (hsz : i.size = sz) (hpos : 0 < sz) (hv : Sl w sz v n xs) {h : Nat} (hh : h ≤ n)
    (hk : ∀ v', Sl w sz v' h (xs.take (h * sz)) → (∀ b, v'.ownBlock = some b → v.ownBlock = some b) → K v' w) : DoV P (Instr.sliceAt T v none (some (.int k h)) (some (.int k' h))) w K X := by
  have he := elem_of hT
  obtain ⟨a, cap, rfl, h1, h2, h3, h4⟩ := hv
  refine DoV_i (v := sliced a 0 h h sz) (w' := w) ?_ (hk _ ?_ fun b => sliced_own)
  · rw [run_sliceAt_slice w _ _ _ _ _ (by rw [he]; exact hT), run_slice_hm w T a n cap (by rw [he]; exact hT) k k' h h (by omega) (by omega) (by omega), he]
    simp [sizeOf, typeInfo, hi, hsz]
  · have := sliced_sl (w := w) (m := h) hpos ⟨a, cap, rfl, h1, h2, h3, h4⟩ (Nat.zero_le h) hh (by omega) (by omega)
    simpa using this
end

/-! ### rows -/
theorem lit1_i {T e : TypeId} {z v : Value} {i : TypeInfo} (hT : P.underlying T = some (.slice e)) (hi : P.info? e = some i) (hsz : i.size = 1) (hz : i.zero = some z) (hz1 : z.cells = #[z]) (hv : v.cells = #[v])
    (hk : ∀ g w1, Ext w w1 → At w1 g (.cells #[v] e (0, 0)) → w.heap.size = g → w1.heap.size = g + 1 → K (.slice (some ⟨g, 0, none⟩) 1 1) w1) : DoV P (Instr.buildSlice T 1 #[(0, v)]) w K X := by
  have e : (Instr.buildSlice T 1 #[(0, v)]).run P w = .ok (.slice (some ⟨w.heap.size, 0, none⟩) 1 1) (w.alloc (.cells #[v] e)) := by
    have hr : Array.range 1 = #[0] := rfl
    simp [Instr.buildSlice, run_underlying hT, sizeOf, typeInfo, hi, hsz, zeroValue, hz, hz1, Instr.fill, hv, newRow, newObj, Sem.run, hr]
  rw [DoV_ok e]
  exact hk _ _ (Ext.alloc _ _) (by unfold At; exact heap_alloc_new w _) rfl (by simp)
theorem Sl.of_lit {g : Nat} {v : Value} {e : TypeId} (h : At w g (.cells #[v] e (0, 0))) : Sl w 1 (.slice (some ⟨g, 0, none⟩) 1 1) 1 [v] :=
  ⟨_, 1, rfl, Nat.le_refl _, by simp [maxLen], rfl, .inr ⟨g, 0, rfl, h.lt, fun j u hu => by
    rw [h.cell]
    cases j with
    | zero => simpa using hu
    | succ j => simp at hu⟩⟩
theorem app_none {T e : TypeId} {ty : TypeId} {cs : Array Bool} {i : TypeInfo} (hT : P.underlying T = some (.slice e)) (hi : P.info? e = some i) {a a' : Option Addr} {n c c' : Nat} (hn : n ≤ c) :
    CallB P .append #[T, T] ty cs #[.slice a n c, .slice a' 0 c'] w K X = K (.slice a n c) w := by
  have e : (Builtin.append_ #[T, T] ty #[.slice a n c, .slice a' 0 c']).run P w = .ok (.slice a n c) w := by
    cases a <;> cases a' <;> simp [Builtin.append_, run_underlying hT, sizeOf, typeInfo, hi, Builtin.lenOf, Builtin.firstCells, loadCells, loadCellsFrom, storeCells, hn]
  simp [CallB, Do, builtin, e]
/-- append onto a row of one's own. -/
theorem app_own {base : Nat} {T e : TypeId} {ty : TypeId} {cs : Array Bool} {i : TypeInfo} {z : Value} {sz bytes : Nat} (hT : P.underlying T = some (.slice e)) (hi : P.info? e = some i) (hz : i.zero = some z)
    (hsz : i.size = sz) (hby : i.bytes = bytes) (hzs : z.cells.size = sz) (hpos : 0 < sz)
    {v x : Value} {n m : Nat} {xs news : List Value} (hown : w.ownsRow base e sz v n xs) (hx : Sl w sz x m news) (h1 : ∀ u ∈ news, u.oneCell' = true) (hb : (n + m) * bytes ≤ 140737488355328) (h63 : n + m ≤ 140737488355328) (hbase : base ≤ w.heap.size)
    (hk : ∀ v' w1, w1.ownsRow base e sz v' (n + m) (xs ++ news) → Mod (fun k => v.ownBlock = some k) w w1 → (v' = .slice none 0 0 ↔ v = .slice none 0 0 ∧ m = 0) → K v' w1) :
    CallB P .append #[T, T] ty cs #[v, x] w K X := by
  obtain ⟨a, c, rfl, hmc, hcm, hl, hr⟩ := hx
  have hfin : ∀ v' w1, (Builtin.append_ #[T, T] ty #[v, .slice a m c]).run P w = .ok v' w1 → K v' w1 → CallB P .append #[T, T] ty cs #[v, .slice a m c] w K X := fun v' w1 he hK => by
    simp only [CallB, Do, builtin, Sem.run_bind, he, Result.andThen_ok, Sem.run_pure]; exact hK
  rcases hr with rfl | ⟨b, o, rfl, hlt, hc⟩
  · have hm0 : m = 0 := by
      have : m * sz = 0 := by simpa using hl.symm
      rcases Nat.mul_eq_zero.1 this with h | h <;> omega
    subst hm0
    rcases hown.2 with ⟨rfl, rfl⟩ | ⟨g, cap, cur, rfl, hb, hg, hn, hcc, _⟩
    · rw [app_none hT hi (Nat.le_refl _)]
      exact hk _ _ (by simpa using hown) (Mod.refl _ _) (by simp)
    · rw [app_none hT hi hn]
      exact hk _ _ (by simpa using hown) (Mod.refl _ _) (by simp)
  · obtain ⟨v', w1, he, h2, h3, h4⟩ := run_append_own (P := P) w base T ty e i z sz bytes hT hi hz hsz hby hzs hpos v n xs hown ⟨b, o, none⟩ m c news hl (fun j u hu => by
      have := hc j u hu
      unfold Addr.add
      split
      · rename_i hj; subst hj; simpa using this
      · exact this) h1 (by simp only [maxLen]; omega) hb hbase
    exact hfin v' w1 he (hk v' w1 h2 (.grown h3) h4)
end Sh
end Go.Proofs.YtjinhojlnaplaaaDoor
