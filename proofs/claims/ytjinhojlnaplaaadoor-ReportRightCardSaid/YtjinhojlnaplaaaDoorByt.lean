/- Rows of bytes and of integers. -/
import Derived.Test.YtjinhojlnaplaaaDoorShort
import Derived.Test.YtjinhojlnaplaaaDoorTyB
import Derived.Laws.Small
namespace Go.Proofs.YtjinhojlnaplaaaDoor
set_option maxRecDepth 100000
open Sh Go.RowKit
def bv (l : List UInt8) : List Value := l.map fun b => Value.int .u8 b.toNat
def u64v (d : BitVec 64) : Value := .int .u64 d.toNat
theorem bv_get {l : List UInt8} {k : Nat} (h : k < l.length) : (bv l)[k]? = some (.int .u8 l[k].toNat) := by simp [bv, h]
theorem u64_wrap (x : BitVec 64) : IntKind.u64.wrap (x.toNat : Int) = x.toNat := by
  have := x.isLt
  simp only [IntKind.wrap, IntKind.signed, IntKind.bits, Bool.false_and]
  rw [if_neg (by decide)]
  omega
theorem take_get {l : List UInt8} {k : Nat} (h : k < l.length) : l.take (k + 1) = l.take k ++ [l[k]] := by rw [List.take_succ_eq_append_getElem h]
theorem i64_wrap {x : Int} (h1 : -9223372036854775808 ≤ x) (h2 : x ≤ 9223372036854775807) : IntKind.i64.wrap x = x := IntWalk.i64_in x ⟨h1, h2⟩

/-- []byte(s): a new row that holds the string's bytes. -/
theorem conv_str {P : Program} {w : World} {K : Value → World → Prop} {X : List PanicEntry → World → Prop} {src dst e : TypeId} (hs : P.underlying src = some .string) (hd : P.underlying dst = some (.slice e)) (he : P.underlying e = some (.int .u8)) {s : ByteArray} (hsz : s.size ≤ 9223372036854775807)
    (hk : ∀ g c w1, Ext w w1 → w.heap.size = g → w1.heap.size = g + 1 → s.size ≤ c → (∃ cs f, At w1 g (.cells cs e f) ∧ cs.size = c ∧ (∀ j, j < c → w1.frozen? ⟨g, j, none⟩ = false)) → Sl w1 1 (.slice (some ⟨g, 0, none⟩) s.size c) s.data.toList.length (bv s.data.toList) → K (.slice (some ⟨g, 0, none⟩) s.size c) w1) :
    DoV P (convert src dst (.string s)) w K X := by
  rw [DoV_ok (run_bytes_of_string w src dst e s hs hd he)]
  have hge := grownCap_ge w s.size 0 e
  have hcm := grownCap_le_maxLen w s.size 0 e (by simp only [maxLen]; omega)
  generalize grownCap w s.size 0 e = c at hge hcm
  have hss : s.data.size = s.size := rfl
  have hsl : s.data.toList.length = s.size := rfl
  have hcsz : (bytesRow s c).size = c := by
    simp only [bytesRow, Array.size_append, Array.size_map, Array.size_replicate, hss]; omega
  have hat : At (w.drew.alloc (.cells (bytesRow s c) e ((bytesRow s c).size, (bytesRow s c).size + 1))) w.heap.size (.cells (bytesRow s c) e ((bytesRow s c).size, (bytesRow s c).size + 1)) := by
    unfold At; exact heap_alloc_new w.drew _
  refine hk _ c _ ((Ext.drew w).trans (Ext.alloc w.drew _)) rfl (by simp) hge ⟨_, _, hat, hcsz, fun j hj => ?_⟩ ⟨some ⟨w.heap.size, 0, none⟩, c, by rw [hsl], by rw [hsl]; exact hge, hcm, by simp [bv], .inr ⟨w.heap.size, 0, rfl, by simp, fun j u hu => ?_⟩⟩
  · unfold At at hat
    simp only [World.frozen?, hat]
    rw [hcsz]
    simp; omega
  · rw [hat.cell, Nat.zero_add]
    have hj : j < s.data.toList.length := by
      have := (List.getElem?_eq_some_iff.1 hu).1
      simpa [bv] using this
    rw [bv_get hj] at hu
    cases hu
    simp only [bytesRow]
    have hj2 : j < s.data.size := by simpa using hj
    rw [Array.getElem?_append_left (by simpa using hj2), Array.getElem?_map, Array.getElem?_eq_getElem hj2]
    simp

theorem index_str {t : TypeId} {s : ByteArray} {w : World} {K : Value → World → Prop} {X : List PanicEntry → World → Prop} {P : Program} {k : IntKind} {i : Nat} (h : P.underlying t = some .string) (hi : i < s.data.toList.length) :
    DoV P (Instr.index t (.string s) (.int k i)) w K X = K (.int .u8 s.data.toList[i].toNat) w := by
  have hi2 : i < s.size := hi
  refine DoV_ok ?_
  rw [run_index_string w t s k i h, dif_pos ⟨by omega, by omega⟩]
  rfl
def iv (l : List Int) : List Value := l.map fun n => Value.int .i64 n
theorem iv_get {l : List Int} {k : Nat} (h : k < l.length) : (iv l)[k]? = some (.int .i64 l[k]) := by simp [iv, h]
theorem bv_append (a b : List UInt8) : bv (a ++ b) = bv a ++ bv b := by simp [bv]
theorem bv_length (a : List UInt8) : (bv a).length = a.length := by simp [bv]
theorem iv_length (a : List Int) : (iv a).length = a.length := by simp [iv]
theorem bv_one (a : List UInt8) : ∀ u ∈ bv a, u.oneCell' = true := by simp [bv, Value.oneCell']
theorem iv_one (a : List Int) : ∀ u ∈ iv a, u.oneCell' = true := by simp [iv, Value.oneCell']
/-- append of one byte onto a row of one's own -/
theorem app_byte {base : Nat} {w : World} {K : Value → World → Prop} {X : List PanicEntry → World → Prop} {v : Value} {l : List UInt8} {c : UInt8} {cs : Array Bool} (hown : w.ownsRow base 5 1 v l.length (bv l)) (hl : l.length < 100000000000000) (hb : base ≤ w.heap.size)
    (hk : ∀ v' w1, w1.ownsRow base 5 1 v' (l ++ [c]).length (bv (l ++ [c])) → Mod (base ≤ ·) w w1 → K v' w1) :
    DoV Tryd.prog (Instr.buildSlice 113 1 #[(0, .int .u8 c.toNat)]) w (fun s w1 => CallB Tryd.prog .append #[113, 113] 113 cs #[v, s] w1 K X) X := by
  obtain ⟨i, hi, hz, hs, hby⟩ := Ty.info_parts Ty.u8_info
  refine lit1_i Ty.bytes hi hs hz rfl rfl fun g w1 he hat hg _ => ?_
  have hs1 := he.size
  refine app_own Ty.bytes hi hz hs hby rfl (by omega) (Own.ext hown he) (Sl.of_lit hat) (by simp [Value.oneCell']) (by omega) (by omega) (by omega) fun v' w2 h1 hm _ => ?_
  refine hk v' w2 (by simpa [bv] using h1) ((Mod.of_ext (S := fun _ => False) he).comp hm (fun _ _ h => h.elim) fun k hk h => ?_)
  rcases hown.2 with ⟨rfl, _⟩ | ⟨g', cap, cur, rfl, hgb, _⟩
  · simp [Value.ownBlock] at h
  · have : g' = k := by simpa [Value.ownBlock] using h
    omega
/-- append of a row of bytes that is there -/
theorem app_bytes {base : Nat} {w : World} {K : Value → World → Prop} {X : List PanicEntry → World → Prop} {v x : Value} {l m : List UInt8} {cs : Array Bool} (hown : w.ownsRow base 5 1 v l.length (bv l)) (hx : Sl w 1 x m.length (bv m)) (hl : l.length + m.length < 100000000000000) (hb : base ≤ w.heap.size)
    (hk : ∀ v' w1, w1.ownsRow base 5 1 v' (l ++ m).length (bv (l ++ m)) → Mod (fun k => v.ownBlock = some k) w w1 → K v' w1) :
    CallB Tryd.prog .append #[113, 113] 113 cs #[v, x] w K X := by
  obtain ⟨i, hi, hz, hs, hby⟩ := Ty.info_parts Ty.u8_info
  refine app_own Ty.bytes hi hz hs hby rfl (by omega) hown hx (bv_one _) (by omega) (by omega) hb fun v' w2 h1 hm _ => ?_
  exact hk v' w2 (by simpa [bv] using h1) hm
theorem iv_cells (l : List Int) : ∀ v ∈ iv l, v.cells = #[v] := by
  intro v hv; simp only [iv, List.mem_map] at hv; obtain ⟨n, _, rfl⟩ := hv; rfl
theorem bv_cells (l : List UInt8) : ∀ v ∈ bv l, v.cells = #[v] := by
  intro v hv; simp only [bv, List.mem_map] at hv; obtain ⟨n, _, rfl⟩ := hv; rfl
theorem lit_ints {w : World} {K : Value → World → Prop} {X : List PanicEntry → World → Prop} {n : Nat} {parts : Array (Nat × Value)} (l : List Int) (hn : l.length = n) (hpos : 0 < n) (hsm : n ≤ 16777216) (hp : parts.toList = ((iv l).zipIdx 0).map fun x => (x.2, x.1))
    (hk : ∀ v w1, Ext w w1 → w1.ownsRow w.heap.size 3 1 v l.length (iv l) → w1.heap.size = w.heap.size + 1 → K v w1) : DoV Tryd.prog (Instr.buildSlice 24 n parts) w K X := by
  obtain ⟨i, hi, hz, hs, hby⟩ := Ty.info_parts Ty.int_info
  refine litn_i (iv l) Ty.ints hi hs hz (iv_cells l) (by rw [iv_length]; exact hn) hpos hsm hp fun v w1 x1 h1 h2 => hk v w1 x1 ?_ h2
  rw [hn]; exact h1
theorem lit_bytes {w : World} {K : Value → World → Prop} {X : List PanicEntry → World → Prop} {n : Nat} {parts : Array (Nat × Value)} (l : List UInt8) (hn : l.length = n) (hpos : 0 < n) (hsm : n ≤ 16777216) (hp : parts.toList = ((bv l).zipIdx 0).map fun x => (x.2, x.1))
    (hk : ∀ v w1, Ext w w1 → w1.ownsRow w.heap.size 5 1 v l.length (bv l) → w1.heap.size = w.heap.size + 1 → K v w1) : DoV Tryd.prog (Instr.buildSlice 113 n parts) w K X := by
  obtain ⟨i, hi, hz, hs, hby⟩ := Ty.info_parts Ty.u8_info
  refine litn_i (bv l) Ty.bytes hi hs hz (bv_cells l) (by rw [bv_length]; exact hn) hpos hsm hp fun v w1 x1 h1 h2 => hk v w1 x1 ?_ h2
  rw [hn]; exact h1
theorem lit_nobytes {w : World} {K : Value → World → Prop} {X : List PanicEntry → World → Prop}
    (hk : ∀ v w1, Ext w w1 → w1.ownsRow w.heap.size 5 1 v ([] : List UInt8).length (bv []) → w1.heap.size = w.heap.size + 1 → K v w1) : DoV Tryd.prog (Instr.buildSlice 113 0 #[]) w K X := by
  obtain ⟨i, hi, hz, hs, hby⟩ := Ty.info_parts Ty.u8_info
  exact lit0_i Ty.bytes hi hk
/-- append of integers that are there -/
theorem app_ints {base : Nat} {w : World} {K : Value → World → Prop} {X : List PanicEntry → World → Prop} {v x : Value} {l m : List Int} {cs : Array Bool} (hown : w.ownsRow base 3 1 v l.length (iv l)) (hx : Sl w 1 x m.length (iv m)) (hl : l.length + m.length < 10000000000000) (hb : base ≤ w.heap.size)
    (hk : ∀ v' w1, w1.ownsRow base 3 1 v' (l ++ m).length (iv (l ++ m)) → Mod (fun k => v.ownBlock = some k) w w1 → K v' w1) :
    CallB Tryd.prog .append #[24, 24] 24 cs #[v, x] w K X := by
  obtain ⟨i, hi, hz, hs, hby⟩ := Ty.info_parts Ty.int_info
  refine app_own Ty.ints hi hz hs hby rfl (by omega) hown hx (iv_one _) (by omega) (by omega) hb fun v' w2 h1 hm _ => ?_
  exact hk v' w2 (by simpa [iv] using h1) hm
theorem str_conv {w : World} {K : Value → World → Prop} {X : List PanicEntry → World → Prop} {v : Value} {l : List UInt8} (hv : Sl w 1 v l.length (bv l)) :
    DoV Tryd.prog (convert 113 9 v) w K X = K (.string ⟨l.toArray⟩) w := str_of Ty.bytes Ty.u8 Ty.str hv
theorem bv_drop (b : List UInt8) (k : Nat) : (bv b).drop (k * 1) = bv (b.drop k) := by simp [bv, List.map_drop]
theorem bv_take (b : List UInt8) (k : Nat) : (bv b).take (k * 1) = bv (b.take k) := by simp [bv, List.map_take]
theorem up_bytes {w : World} {K : Value → World → Prop} {X : List PanicEntry → World → Prop} {v : Value} {b : List UInt8} {k : Nat} (hv : Sl w 1 v b.length (bv b)) (hk : k ≤ b.length)
    (hK : ∀ v', Sl w 1 v' (b.take k).length (bv (b.take k)) → K v' w) : DoV Tryd.prog (Instr.sliceAt 113 v none (some (.int .i64 k)) none) w K X := by
  obtain ⟨i8, hi8, hz8, hs8, _⟩ := Ty.info_parts Ty.u8_info
  refine slice_upto Ty.bytes hi8 hs8 (by decide) hv hk fun v' h' _ => hK v' ?_
  rw [bv_take] at h'
  rw [List.length_take, Nat.min_eq_left hk]; exact h'
theorem xor_ne {x : UInt8} {y : Int} (hy : 0 ≤ y ∧ y < 256) (h0 : y ≠ 0) : ∃ c : UInt8, c ≠ x ∧ IntKind.u8.wrap (BitVec.ofInt IntKind.u8.bits (x.toNat : Int) ^^^ BitVec.ofInt IntKind.u8.bits y).toNat = (c.toNat : Int) := by
  refine ⟨UInt8.ofBitVec (x.toBitVec ^^^ BitVec.ofInt 8 y), fun e => h0 ?_, ?_⟩
  · have h2 := congrArg UInt8.toBitVec e
    have h3 : x.toBitVec ^^^ BitVec.ofInt 8 y = x.toBitVec := h2
    have h4 : x.toBitVec ^^^ (x.toBitVec ^^^ BitVec.ofInt 8 y) = x.toBitVec ^^^ x.toBitVec := by rw [h3]
    rw [← BitVec.xor_assoc, BitVec.xor_self, BitVec.zero_xor] at h4
    have h5 := congrArg BitVec.toNat h4
    simp only [BitVec.toNat_ofInt, BitVec.toNat_zero] at h5
    omega
  · have e1 : BitVec.ofInt IntKind.u8.bits (x.toNat : Int) = x.toBitVec := by
      apply BitVec.eq_of_toNat_eq
      have := x.toBitVec.isLt
      simp only [IntKind.bits, BitVec.toNat_ofInt, UInt8.toNat]
      omega
    rw [e1, u8w]
    show ((x.toBitVec ^^^ BitVec.ofInt 8 y).toNat : Int) % 256 = ((x.toBitVec ^^^ BitVec.ofInt 8 y).toNat : Int)
    have := (x.toBitVec ^^^ BitVec.ofInt 8 y).isLt
    omega
section
variable {P : Program} {w : World} {K : Value → World → Prop} {X : List PanicEntry → World → Prop}
theorem u64_eql {t : TypeId} {ox oy : Operand} {a b : BitVec 64} : DoV P (binS .eql t ox oy (u64v a) (u64v b)) w K X = K (.bool (decide (a = b))) w := by
  rw [u64v, u64v, bin_eql]
  congr 2
  have : ((a.toNat : Int) = b.toNat) ↔ a = b := ⟨fun h => BitVec.eq_of_toNat_eq (by omega), fun h => by rw [h]⟩
  simp only [this]
theorem u64_neq {t : TypeId} {ox oy : Operand} {a b : BitVec 64} : DoV P (binS .neq t ox oy (u64v a) (u64v b)) w K X = K (.bool (!decide (a = b))) w := by
  rw [u64v, u64v, bin_neq]
  congr 3
  have : ((a.toNat : Int) = b.toNat) ↔ a = b := ⟨fun h => BitVec.eq_of_toNat_eq (by omega), fun h => by rw [h]⟩
  simp only [this]
theorem bool_eql {t : TypeId} (ht : P.underlying t = some .bool) {ox oy : Operand} {a b : Bool} : DoV P (binS .eql t ox oy (.bool a) (.bool b)) w K X = K (.bool (a == b)) w := DoV_ok (by simp [binS, eqGuard, run_eql_bool w t a b ht])
theorem str_add {t : TypeId} {ox oy : Operand} {a b : ByteArray} (h : a.size + b.size ≤ 1000000000) : DoV P (binS .add t ox oy (.string a) (.string b)) w K X = K (.string (a ++ b)) w := DoV_ok (by simp [binS, eqGuard, binOp, Op.stringOp]; omega)
theorem det_ret {f : FuncId} {args : Array Value} {w0 : World} {rest : Value → (World → Prop) → Prop} (c : Value) (h : ∀ w1, Ext w0 w1 → Ret P f args w1 fun r w' => r = c ∧ Ext w1 w') (hk : rest c fun _ => True) :
    DetOp Ext Ext w0 (fun w1 K => CallF P f args w1 K X) rest :=
  ⟨c, fun _ => True, fun _ _ _ _ => trivial, fun w1 h1 => callF_ret (h w1 h1) fun _ _ hq => ⟨hq.1, hq.2, trivial⟩, hk⟩
theorem store_f {t : TypeId} {b o : Nat} {cs : Array Value} {e : TypeId} {f : Nat × Nat} {v : Value} (ht : ∀ w, (sizeOf t).run P w = .ok 1 w) (h : At w b (.cells cs e f)) (hfz : w.frozen? ⟨b, o, none⟩ = false) (ho : o < cs.size) (hv : v.oneCell' = true)
    (hk : ∀ w1, Mod (· = b) w w1 → At w1 b (.cells (cs.setIfInBounds o v) e f) → w1.heap.size = w.heap.size → K undef w1) : DoU P (Instr.storeAt t (.pointer (some ⟨b, o, none⟩)) v) w K X := by
  have hcs : v.cells = #[v] := by cases v <;> first | rfl | exact absurd hv (by simp [Value.oneCell'])
  have e : (Instr.storeAt t (.pointer (some ⟨b, o, none⟩)) v).run P w = .ok () (w.setCell ⟨b, o, none⟩ v) := by
    have h1 : w.cell? ⟨b, o, none⟩ = some cs[o] := by rw [h.cell]; simp [ho]
    simp [Instr.storeAt, Instr.sureAddr, storeVar, hcs, ht, storeCells, Addr.add, run_store P w _ v .plain hv, h1, hfz]
  rw [DoU_ok e]
  exact hk _ (Mod.setCell ⟨b, o, none⟩ v) (h.set o v) (by simp)
end
/-- What a law gives. -/
def TrueQ (w : World) (r : Value) (w' : World) : Prop := r = .bool true ∧ Ext w w'
theorem xor_val {x : UInt8} {y : Int} (hy : 0 ≤ y ∧ y < 256) : ∃ c : UInt8, (c = x ↔ y = 0) ∧ IntKind.u8.wrap (BitVec.ofInt IntKind.u8.bits (x.toNat : Int) ^^^ BitVec.ofInt IntKind.u8.bits y).toNat = (c.toNat : Int) := by
  by_cases h0 : y = 0
  · subst h0
    refine ⟨x, by simp, ?_⟩
    have e1 : BitVec.ofInt IntKind.u8.bits (x.toNat : Int) = x.toBitVec := by
      apply BitVec.eq_of_toNat_eq
      have := x.toBitVec.isLt
      simp only [IntKind.bits, BitVec.toNat_ofInt, UInt8.toNat]
      omega
    have e2 : BitVec.ofInt IntKind.u8.bits 0 = 0#8 := rfl
    rw [e1, e2, u8w]
    show ((x.toBitVec ^^^ 0#8).toNat : Int) % 256 = _
    rw [BitVec.xor_zero]
    have := x.toBitVec.isLt
    simp only [UInt8.toNat]; omega
  · obtain ⟨c, h1, h2⟩ := xor_ne (x := x) hy h0
    exact ⟨c, ⟨fun h => absurd h h1, fun h => absurd h h0⟩, h2⟩
theorem u64lit (d : BitVec 64) (n : Int) (h : (d.toNat : Int) = n) : Value.int .u64 n = u64v d := by rw [u64v, h]
end Go.Proofs.YtjinhojlnaplaaaDoor
