/- slices.Insert at reports: the single operations. -/
import Derived.Test.YtohmledhhgdgaaaGreatDoorGMshA
import Derived.Lib.Overlaps
import Derived.Lib.AppendZerosOnto
import Derived.Laws.CopyRow
set_option linter.unusedVariables false
set_option linter.unusedSimpArgs false
namespace Go.Proofs.YtohmledhhgdgaaaGreatDoor
set_option maxRecDepth 100000
set_option maxHeartbeats 8000000
open Sh Go.RowKit
section ops
variable {P : Program} {w : World} {K : Value → World → Prop} {X : List PanicEntry → World → Prop}
theorem CallB_ok {b : Builtin} {ts : Array TypeId} {t : TypeId} {cs : Array Bool} {args : Array Value} {v : Value} {w' : World} (e : (builtin b ts t cs args).run P w = .ok (.value v) w') (hk : K v w') : CallB P b ts t cs args w K X := by
  unfold CallB Do
  rw [e]; exact hk
theorem cap_i {T e ty : TypeId} {cs : Array Bool} (hT : P.underlying T = some (.slice e)) {a : Option Addr} {n c : Nat} : CallB P .cap #[T] ty cs #[.slice a n c] w K X = K (.int .i64 c) w := by
  simp [CallB, Do, builtin, Builtin.cap_, run_underlying hT, goInt]
theorem copy_i {dT ty elem : TypeId} {fl : Array Bool} {i : TypeInfo} {g o dLen dCap sLen sCap n sz : Nat} {a : Addr} {cur : Array Value} {t : TypeId} {cs : List Value} (hu : P.underlying dT = some (.slice elem)) (hi : P.info? elem = some i) (hsz : i.size = sz)
    (hat : At w g (.cells cur t (0, 0))) (hn : Nat.min sLen dLen = n) (hcs : cs.length = n * sz) (hsrc : ∀ j v, cs[j]? = some v → w.cell? (a.add j) = some v) (hfit : o + cs.length ≤ cur.size) (h1 : ∀ v ∈ cs, v.oneCell' = true)
    (hk : ∀ w1, Mod (· = g) w w1 → At w1 g (.cells (cur.toList.take o ++ cs ++ cur.toList.drop (o + cs.length)).toArray t (0, 0)) → w1.heap.size = w.heap.size → K (.int .i64 n) w1) :
    CallB P .copy #[dT, dT] ty fl #[.slice (some ⟨g, o, none⟩) dLen dCap, .slice (some a) sLen sCap] w K X := by
  have hl := run_loadCells_list (P := P) w a cs hsrc
  have hst := run_storeCells_at P g o t cs 0 cur w hat (by simpa using hfit) h1
  have e : (builtin .copy #[dT, dT] ty fl #[.slice (some ⟨g, o, none⟩) dLen dCap, .slice (some a) sLen sCap]).run P w = .ok (.value (.int .i64 n)) (w.setRow g (cur.toList.take o ++ cs ++ cur.toList.drop (o + cs.length)).toArray) := by
    rw [hcs] at hl
    simp only [Nat.add_zero] at hst
    simp [builtin, Builtin.copy_, run_underlying hu, Builtin.lenOf, Builtin.firstCells, sizeOf, typeInfo, hi, hsz, hn, hl, hst, goInt]
  refine CallB_ok e (hk _ ⟨rfl, rfl, rfl, by simp [World.setRow], fun k hk hne => ?_⟩ ?_ (by simp [World.setRow]))
  · simp only [World.setRow]
    rw [Array.getElem?_modify, if_neg (fun e => hne e.symm)]
  · unfold At at hat ⊢
    simp only [World.setRow, Array.getElem?_modify, if_true, hat, Option.map_some]
end ops
theorem overlaps_i {w : World} {K : Value → World → Prop} {X : List PanicEntry → World → Prop} {a b : Addr} {la ca lb cb : Nat} {cA cB : Array Value} {tA tB : TypeId} (ha : At w a.block (.cells cA tA (0, 0))) (hb : At w b.block (.cells cB tB (0, 0))) (hne : a.block ≠ b.block) (hB : cB.size ≠ 0) (hk : K (.bool false) w) :
    CallX Tryz.prog 98 #[.slice (some a) la ca, .slice (some b) lb cb] w K X := by
  unfold CallX Do
  have hsa : w.shape? a.block = some (tA, cA.size) := by unfold At at ha; simp [World.shape?, ha]
  have hsb : w.shape? b.block = some (tB, cB.size) := by unfold At at hb; simp [World.shape?, hb]
  have hfa : ∀ o, w.frozen? { block := a.block, off := o } = false := fun o => by unfold At at ha; simp [World.frozen?, ha]
  have hf2 : w.frozen? a = false := by unfold At at ha; simp [World.frozen?, ha]
  rw [run_callFunc_extern Tryz.func98 (by kernel_rfl) (by kernel_rfl) (by kernel_rfl) (e := Extern.SlicesOverlaps.overlaps #[22, 22] #[4]) (by kernel_rfl),
    Lib.run_overlaps_apart w 22 4 30 Ty.SReport_row 7 Ty.SReport_size a b la ca lb cb hne tA tB cA.size cB.size hsa hsb hB hf2 (hfa _)]
  exact hk
theorem zapp_i {w : World} {K : Value → World → Prop} {X : List PanicEntry → World → Prop} {fl : Array Bool} {a : Option Addr} {n c k : Nat} {xs : List Value} (hx : Sl w 7 (.slice a n c) n xs) (h0 : 0 < k) (hg : c < n + k) (hsm : n + k < 1000000)
    (hk : ∀ w1 (c' : Nat) (cur : Array Value), Ext w w1 → At w1 w.heap.size (.cells cur 30 (0, 0)) → w1.heap.size = w.heap.size + 1 → n + k ≤ c' → c' ≤ maxLen → cur.size = c' * 7 → cur.toList.take (n * 7) = xs → K (.slice (some ⟨w.heap.size, 0, none⟩) (n + k) c') w1) :
    CallB Tryz.prog .append #[22, 3] 22 fl #[.slice a n c, .int .i64 k] w K X := by
  obtain ⟨i, hi, hz, hs, hby⟩ := Ty.info_parts Ty.SReport_info
  obtain ⟨a', c2, heq, hnc, hcm, hxl, hrd⟩ := hx
  cases heq
  have hold : (Builtin.firstCells i.size n (.slice a n c)).run Tryz.prog w.drew = .ok xs.toArray w.drew := by
    rcases hrd with h0 | ⟨b, o, rfl, hlt, hc⟩
    · subst h0
      have : n = 0 := by
        have : n * 7 = 0 := by simpa using hxl.symm
        omega
      subst this
      cases a with
      | none => rfl
      | some a => simp [Builtin.firstCells, loadCells, loadCellsFrom]
    · have hl := run_loadCells_list (P := Tryz.prog) w.drew ⟨b, o, none⟩ xs fun j u hu => by
        have h := hc j u hu
        have hadd : (⟨b, o, none⟩ : Addr).add j = ⟨b, o + j, none⟩ := by unfold Addr.add; split <;> simp_all
        rw [hadd]; exact h
      rw [hxl, ← hs] at hl
      exact hl
  have h48 : (n + k) * i.bytes ≤ 140737488355328 := by rw [hby]; omega
  have hz' : i.zero = some (.agg SReport.zero.cells.toArray) := hz
  have hrun := Lib.run_append_grow_zeros (P := Tryz.prog) w 22 3 22 30 i _ .i64 .i64 Ty.SReport_row Ty.int hi hz' a n c xs hold k h0 (by omega) hg (by omega) (by rw [hby]; omega) (growslice_fits hg h48)
  have hge := grownCap_ge w (n + k) c 30
  refine CallB_ok (by simp only [builtin, Sem.run_bind, hrun, Result.andThen_ok, Sem.run_pure]; rfl) ?_
  refine hk _ _ _ ⟨rfl, rfl, rfl, by simp, fun k hk => Go.RowKit.Below.heap_alloc w.drew _ k hk⟩ (World.alloc_heap_new w.drew _) (by simp) hge (grownCap_le_maxLen w (n + k) c _ (by simp only [maxLen]; omega)) ?_ ?_
  · have hz7 : (Value.agg SReport.zero.cells.toArray).cells.size = 7 := rfl
    simp only [Array.size_append, List.size_toArray, size_zeroCells, hz7, hxl, ← Nat.add_mul]
    congr 1
    omega
  · simp only [Array.toList_append, List.append_assoc]
    rw [← hxl]
    exact List.take_left
theorem lit_at {P : Program} {w : World} {K : Value → World → Prop} {X : List PanicEntry → World → Prop} {α : Type} {c : α → List Value} {T e : TypeId} {i : TypeInfo} {z : Value} {sz n : Nat} {parts : Array (Nat × Value)} (x : α → Value) (ls : List α) (hT : P.underlying T = some (.slice e)) (hi : P.info? e = some i) (hz : i.zero = some z)
    (hsz : i.size = sz) (hpos : 0 < sz) (hc : ∀ a, (c a).length = sz) (hx : ∀ a, (x a).cells = (c a).toArray) (hn : ls.length = n) (hn0 : 0 < n) (hsm : n * sz ≤ 16777216)
    (hp : parts.toList = ((ls.map x).zipIdx 0).map fun y => (y.2, y.1))
    (hk : ∀ w1, Ext w w1 → At w1 w.heap.size (.cells (fl c ls).toArray e (0, 0)) → K (.slice (some ⟨w.heap.size, 0, none⟩) n n) w1) : DoV P (Instr.buildSlice T n parts) w K X := by
  have hn1 : n ≤ 16777216 := Nat.le_trans (Nat.le_mul_of_pos_right n hpos) hsm
  have hfl : (fl c ls).length = n * sz := by rw [fl_length hc, hn]
  have e1 := run_buildSlice (P := P) w T e n parts (fl c ls).toArray i z hT hi hz (by rw [hsz]; omega) (by rw [hsz]; exact Nat.ne_of_gt (Nat.mul_pos hn0 hpos)) (by
    obtain ⟨r, hr, hsz2, hkk⟩ := Great.fill_dense (s := i.size) (by omega) (ls.map x) 0 ((Array.range (n * i.size)).map (z.cells[· % z.cells.size]!)) (fun v hv => by obtain ⟨a, _, rfl⟩ := List.mem_map.1 hv; rw [hx, hsz]; simpa using hc a) (by simp [hn])
    rw [hp, hr]
    congr 1
    apply Array.ext_getElem?
    intro k
    rw [hkk k]
    by_cases hlt : k < n * sz
    · rw [if_pos (by rw [List.length_map, hn, hsz, Nat.zero_add]; omega), hsz, Nat.sub_zero]
      have hd : k / sz < ls.length := by rw [hn, Nat.div_lt_iff_lt_mul hpos]; exact hlt
      rw [List.getElem?_map, List.getElem?_eq_getElem hd, Option.map_some, Option.bind_some, hx]
      have hm : k % sz < (c ls[k / sz]).length := by rw [hc]; exact Nat.mod_lt _ hpos
      have hg := fl_get hc (l := ls) (k := k / sz) (j := k % sz) hd (List.getElem?_eq_getElem hm)
      rw [Nat.mul_comm, Nat.div_add_mod] at hg
      simp only [List.getElem?_toArray]
      rw [hg, List.getElem?_eq_getElem hm]
    · rw [if_neg (by rw [List.length_map, hn, hsz, Nat.zero_add]; omega)]
      rw [Array.getElem?_eq_none (by simp [hsz]; omega), Array.getElem?_eq_none (by simp [hfl]; omega)])
  rw [DoV_ok e1]
  exact hk _ (Ext.alloc _ _) (by unfold At; exact heap_alloc_new w _)
theorem SReport.lit_one {w : World} {K : Value → World → Prop} {X : List PanicEntry → World → Prop} {a : SReport} (hk : ∀ w1, Ext w w1 → At w1 w.heap.size (.cells a.cells.toArray 30 (0, 0)) → K (.slice (some ⟨w.heap.size, 0, none⟩) 1 1) w1) :
    DoV Tryz.prog (Instr.buildSlice 22 1 #[(0, .agg a.cells.toArray)]) w K X := by
  obtain ⟨i, hi, hz, hs, hby⟩ := Ty.info_parts Ty.SReport_info
  refine lit_at (c := SReport.cells) (fun a => Value.agg a.cells.toArray) [a] Ty.SReport_row hi hz hs (by decide) SReport.len (fun _ => rfl) rfl (by decide) (by decide) rfl fun w1 x1 h => hk w1 x1 ?_
  have e : fl SReport.cells [a] = a.cells := by simp [fl]
  rw [e] at h
  exact h
end Go.Proofs.YtohmledhhgdgaaaGreatDoor
