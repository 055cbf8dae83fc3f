/- Rows of flat structs: each element some cells; read, written, appended, compared. No program in sight. -/
import Derived.Test.YtjinhojlnaplaaaDoorItr
import Derived.Test.YtjinhojlnaplaaaDoorEq
import Derived.Test.YtjinhojlnaplaaaDoorOpen
import Derived.Great.FillDense
namespace Go.Proofs.YtjinhojlnaplaaaDoor
set_option maxRecDepth 100000
namespace Sh
open Go.RowKit
/-- The cells of a list, element by element. -/
def fl {α : Type} (c : α → List Value) (l : List α) : List Value := l.flatMap c
section
variable {α : Type} {c : α → List Value} {sz : Nat}
theorem fl_nil : fl c [] = [] := rfl
theorem fl_cons (a : α) (l : List α) : fl c (a :: l) = c a ++ fl c l := by simp [fl]
theorem fl_append (l m : List α) : fl c (l ++ m) = fl c l ++ fl c m := by simp [fl]
theorem fl_length (hc : ∀ a, (c a).length = sz) (l : List α) : (fl c l).length = l.length * sz := by
  induction l with
  | nil => simp [fl]
  | cons a l ih => rw [fl_cons, List.length_append, hc, ih, List.length_cons, Nat.add_mul]; omega
theorem fl_drop (hc : ∀ a, (c a).length = sz) : ∀ (l : List α) (k : Nat), (fl c l).drop (k * sz) = fl c (l.drop k)
  | [], k => by simp [fl]
  | a :: l, 0 => by simp
  | a :: l, k + 1 => by
    rw [fl_cons, List.drop_succ_cons, ← fl_drop hc l k, Nat.add_mul, List.drop_append, hc]
    rw [List.drop_eq_nil_of_le (by rw [hc]; omega)]
    simp
theorem fl_take (hc : ∀ a, (c a).length = sz) : ∀ (l : List α) (k : Nat), (fl c l).take (k * sz) = fl c (l.take k)
  | [], k => by simp [fl]
  | a :: l, 0 => by simp [fl]
  | a :: l, k + 1 => by
    rw [fl_cons, List.take_succ_cons, fl_cons, ← fl_take hc l k, Nat.add_mul, List.take_append, hc]
    rw [List.take_of_length_le (by rw [hc]; omega)]
    simp
theorem fl_get (hc : ∀ a, (c a).length = sz) {l : List α} {k j : Nat} {u : Value} (hk : k < l.length) (hu : (c l[k])[j]? = some u) : (fl c l)[k * sz + j]? = some u := by
  have hj : j < sz := by have := (List.getElem?_eq_some_iff.1 hu).1; rw [hc] at this; exact this
  rw [← List.getElem?_drop, fl_drop hc, List.drop_eq_getElem_cons hk, fl_cons, List.getElem?_append_left (by rw [hc]; exact hj)]
  exact hu
theorem fl_one (h1 : ∀ a, ∀ u ∈ c a, u.oneCell' = true) (l : List α) : ∀ u ∈ fl c l, u.oneCell' = true := by
  intro u hu
  simp only [fl, List.mem_flatMap] at hu
  obtain ⟨a, _, hu⟩ := hu
  exact h1 a u hu
theorem fl_inj (hc : ∀ a, (c a).length = sz) (hi : ∀ a b, c a = c b → a = b) (hpos : 0 < sz) : ∀ {l m : List α}, fl c l = fl c m → l = m
  | [], [], _ => rfl
  | [], b :: m, h => by have := congrArg List.length h; rw [fl_length hc, fl_length hc, List.length_cons, Nat.add_mul] at this; simp only [List.length_nil, Nat.zero_mul, Nat.one_mul] at this; omega
  | a :: l, [], h => by have := congrArg List.length h; rw [fl_length hc, fl_length hc, List.length_cons, Nat.add_mul] at this; simp only [List.length_nil, Nat.zero_mul, Nat.one_mul] at this; omega
  | a :: l, b :: m, h => by
    rw [fl_cons, fl_cons] at h
    have h1 := List.append_inj h (by rw [hc, hc])
    rw [hi a b h1.1, fl_inj hc hi hpos h1.2]
end
variable {P : Program} {w w' : World} {K : Value → World → Prop} {X : List PanicEntry → World → Prop}
/-- The address of an element, and its cells. -/
theorem Sl.el {α : Type} {c : α → List Value} {sz : Nat} {v : Value} {l : List α} (hc : ∀ a, (c a).length = sz) (h : Sl w sz v l.length (fl c l)) {T e : TypeId} (hT : P.underlying T = some (.slice e)) {i : TypeInfo} (hi : P.info? e = some i) (hsz : i.size = sz) {k : IntKind} {j : Nat} (hj : j < l.length) (hpos : 0 < sz) :
    ∃ b o, (∀ m u, (c l[j])[m]? = some u → w.cell? ⟨b, o + m, none⟩ = some u) ∧ b < w.heap.size ∧
      ∀ (w1 : World) (K : Value → World → Prop) (X : List PanicEntry → World → Prop), DoV P (Instr.indexAt T v (.int k j)) w1 K X = K (.pointer (some ⟨b, o, none⟩)) w1 := by
  obtain ⟨b, o, hcell, hb, hix⟩ := h.index hT hi hsz (k := k) hj hpos
  exact ⟨b, o + j * sz, fun m u hu => by rw [Nat.add_assoc]; exact hcell _ _ (fl_get hc hj hu), hb, hix⟩
/-- append of one element onto a row of one's own -/
theorem app_el {α : Type} {c : α → List Value} {base : Nat} {T e : TypeId} {ty : TypeId} {cs : Array Bool} {i : TypeInfo} {z : Value} {sz bytes : Nat} (hT : P.underlying T = some (.slice e)) (hi : P.info? e = some i) (hz : i.zero = some z)
    (hsz : i.size = sz) (hby : i.bytes = bytes) (hzs : z.cells.size = sz) (hpos : 0 < sz) (hsm : sz ≤ 1000) (hc : ∀ a, (c a).length = sz) (h1 : ∀ a, ∀ u ∈ c a, u.oneCell' = true)
    {v x : Value} {l : List α} {a : α} (hx : x.cells = (c a).toArray) (hown : w.ownsRow base e sz v l.length (fl c l)) (hb : (l.length + 1) * bytes ≤ 140737488355328) (h63 : l.length + 1 ≤ 140737488355328) (hbase : base ≤ w.heap.size)
    (hk : ∀ v' w1, w1.ownsRow base e sz v' (l ++ [a]).length (fl c (l ++ [a])) → Mod (base ≤ ·) w w1 → K v' w1) :
    DoV P (Instr.buildSlice T 1 #[(0, x)]) w (fun s w1 => CallB P .append #[T, T] ty cs #[v, s] w1 K X) X := by
  have e1 := run_buildSlice (P := P) w T e 1 #[(0, x)] (c a).toArray i z hT hi hz (by rw [hsz]; omega) (by rw [hsz]; omega) (by
    obtain ⟨r, hr, hsz2, hkk⟩ := Great.fill_dense (s := i.size) (by omega) [x] 0 ((Array.range (1 * i.size)).map (z.cells[· % z.cells.size]!)) (fun v hv => by simp only [List.mem_singleton] at hv; subst hv; rw [hx, hsz]; simpa using hc a) (by simp)
    have e2 : (#[(0, x)] : Array (Nat × Value)).toList = ([x].zipIdx 0).map fun y => (y.2, y.1) := rfl
    rw [e2, hr]
    congr 1
    apply Array.ext_getElem?
    intro k
    rw [hkk k]
    by_cases hlt : k < sz
    · rw [if_pos (by simp; omega)]
      have hd : k / i.size = 0 := by rw [hsz]; exact Nat.div_eq_of_lt hlt
      have hm : k % i.size = k := by rw [hsz]; exact Nat.mod_eq_of_lt hlt
      simp [hd, hm, hx]
    · have hcl := hc a
      rw [if_neg (by simp; omega)]
      rw [Array.getElem?_eq_none (by simp; omega), Array.getElem?_eq_none (by simp; omega)])
  rw [DoV_ok e1]
  have x1 : Ext w (w.alloc (.cells (c a).toArray e)) := Ext.alloc _ _
  have hat : At (w.alloc (.cells (c a).toArray e)) w.heap.size (.cells (c a).toArray e (0, 0)) := by unfold At; exact heap_alloc_new w _
  have hsl : Sl (w.alloc (.cells (c a).toArray e)) sz (.slice (some ⟨w.heap.size, 0, none⟩) 1 1) 1 (c a) :=
    ⟨_, 1, rfl, Nat.le_refl _, by simp [maxLen], by rw [hc]; omega, .inr ⟨_, 0, rfl, hat.lt, fun j u hu => by rw [hat.cell, Nat.zero_add]; simpa using hu⟩⟩
  refine app_own hT hi hz hsz hby hzs hpos (Own.ext hown x1) hsl (h1 a) hb h63 (by have := x1.size; omega) fun v' w2 h2 hm _ => ?_
  refine hk v' w2 (by rw [fl_append]; simpa [fl] using h2) ((Mod.of_ext (S := fun _ => False) x1).comp hm (fun _ _ h => h.elim) fun k hk h => (Own.block hown h).1)
/-- box: a new variable -/
theorem box_i {t : TypeId} {v : Value} (hk : ∀ b w1, Ext w w1 → At w1 b (.cells v.cells t (0, 0)) → w.heap.size = b → w1.heap.size = b + 1 → K (.pointer (some ⟨b, 0, none⟩)) w1) : DoV P (Instr.box t v) w K X := by
  have e : (Instr.box t v).run P w = .ok (.pointer (some ⟨w.heap.size, 0, none⟩)) (w.alloc (.cells v.cells t)) := by
    simp [Instr.box, newVar, newRow, newObj, Sem.run]
  rw [DoV_ok e]
  exact hk _ _ (Ext.alloc _ _) (by unfold At; exact heap_alloc_new w _) rfl (by simp)
theorem load_e {t : TypeId} {b o : Nat} {cs : Array Value} {e : TypeId} {f : Nat × Nat} {u : Value} (ht : ∀ w, (isAgg t).run P w = .ok false w) (h : At w b (.cells cs e f)) (hu : cs[o]? = some u) :
    DoV P (Instr.loadAt t (.pointer (some ⟨b, o, none⟩))) w K X = K u w := load_cell ht (by rw [h.cell]; exact hu)
/-- A part of a variable, written. -/
theorem store_part {t : TypeId} {b o n : Nat} {cs : Array Value} {e : TypeId} {v : Value} (hs : ∀ w, (sizeOf t).run P w = .ok n w) (h : At w b (.cells cs e (0, 0))) (hn : o + n ≤ cs.size) (hv : v.cells.size = n) (h1 : ∀ u ∈ v.cells.toList, u.oneCell' = true)
    (hk : ∀ w1, Mod (· = b) w w1 → At w1 b (.cells (cs.toList.take o ++ v.cells.toList ++ cs.toList.drop (o + n)).toArray e (0, 0)) → w1.heap.size = w.heap.size → K undef w1) : DoU P (Instr.storeAt t (.pointer (some ⟨b, o, none⟩)) v) w K X := by
  have hl := run_storeCells_at (P := P) b o e v.cells.toList 0 cs w h (by simp; omega) h1
  have e1 : (Instr.storeAt t (.pointer (some ⟨b, o, none⟩)) v).run P w = .ok () (w.setRow b (cs.toList.take o ++ v.cells.toList ++ cs.toList.drop (o + n)).toArray) := by
    simp only [Nat.add_zero, Array.length_toList, hv] at hl
    simp [Instr.storeAt, Instr.sureAddr, storeVar, hs, hv, hl]
  rw [DoU_ok e1]
  refine hk _ ⟨rfl, rfl, rfl, by simp [World.setRow], fun k hk hne => ?_⟩ ?_ (by simp [World.setRow])
  · simp only [World.setRow]
    rw [Array.getElem?_modify, if_neg (fun e => hne e.symm)]
  · unfold At at h ⊢
    simp only [World.setRow, Array.getElem?_modify, if_true, h, Option.map_some]
theorem trod_list {H : Type} {enc : TypeId × Value → H} {α : Type} [Inhabited α] {c : α → List Value} {sz : Nat} {Q : α → Prop} {t e : TypeId} {fuel : Nat} {v : Value} {x : DataW H × List MemPlace} (ht : P.underlying t = some (.slice e)) (hce : P.cellsOf e = sz) (hpos : 0 < sz)
    (h : DataW.trod enc P w 0 (fun _ => true) true fuel t [v] = some x) (hel : ∀ (fuel : Nat) (cs : List Value) (x : DataW H × List MemPlace), DataW.trod enc P w 0 (fun _ => true) true fuel e cs = some x → ∃ a, cs = c a ∧ Q a) :
    ∃ l : List α, Sl w sz v l.length (fl c l) ∧ ∀ a ∈ l, Q a := by
  obtain ⟨n, xs, hs, he⟩ := trod_sl ht hce hpos h
  have hxl := hs.length
  obtain ⟨l, hl, hR⟩ := pick_list (n := n) (R := fun i a => (xs.drop (i * sz)).take sz = c a ∧ Q a) fun i hi => by
    obtain ⟨m, y, hy⟩ := he i hi
    exact hel _ _ _ hy
  have e1 : ∀ k, k ≤ n → xs.take (k * sz) = fl c (l.take k) := by
    intro k
    induction k with
    | zero => intro _; simp [fl]
    | succ k ih =>
      intro hk
      have h2 := hR k l[k] (List.getElem?_eq_getElem (by omega))
      rw [List.take_succ_eq_append_getElem (by omega), fl_append, ← ih (by omega), Nat.add_mul, Nat.one_mul, List.take_add, h2.1]
      simp [fl]
  have e2 := e1 n (Nat.le_refl _)
  rw [List.take_of_length_le (by omega), List.take_of_length_le (by omega)] at e2
  subst e2
  refine ⟨l, by rw [hl]; exact hs, fun a ha => ?_⟩
  obtain ⟨i, hi⟩ := List.getElem?_of_mem ha
  exact (hR i a hi).2
end Sh
end Go.Proofs.YtjinhojlnaplaaaDoor
