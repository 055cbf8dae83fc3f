/- What the laws' arguments are, by their types. -/
import Derived.Test.YtjinhojlnaplaaaDoorWrap
import Derived.Test.YtjinhojlnaplaaaDoorBaseB
import Derived.Test.YtjinhojlnaplaaaDoorBaseC
import Derived.ChangeMaps5
namespace Go.Proofs.YtjinhojlnaplaaaDoor
set_option maxRecDepth 100000
open Sh Go.RowKit Go.WideShapes Go.ChangeShapes
section
variable {H : Type} {enc : TypeId × Value → H} {W : World}
theorem arg_sl {P : Program} {t e : TypeId} {base : Nat} {v : Value} {d : DataW H} {ps : List MemPlace} (ht : P.underlying t = some (.slice e)) (hval : Value.okWide P W .any base t v) (h : DataW.Trod enc P W 0 (fun _ => true) true t v d ps) :
    ∃ (fuel : Nat) (x : DataW H × List MemPlace), DataW.trod enc P W 0 (fun _ => true) true fuel t [v] = some x := by
  obtain ⟨a, len, cap, rfl⟩ := okWide_slice ht hval
  obtain ⟨fuel, hf⟩ := h
  exact ⟨fuel, _, hf⟩
theorem wf_i64 {z : Int} (h : (Lit.int .i64 z).wf = true) : I64 z := by
  unfold I64
  simpa [Lit.wf, IntKind.min, IntKind.max, IntKind.signed, IntKind.bits] using h
theorem wf_u8 {z : Int} (h : (Lit.int .u8 z).wf = true) : 0 ≤ z ∧ z < 256 := by
  have : 0 ≤ z ∧ z ≤ 255 := by simpa [Lit.wf, IntKind.min, IntKind.max, IntKind.signed, IntKind.bits] using h
  omega
theorem wf_u16 {z : Int} (h : (Lit.int .u16 z).wf = true) : 0 ≤ z ∧ z < 65536 := by
  have : 0 ≤ z ∧ z ≤ 65535 := by simpa [Lit.wf, IntKind.min, IntKind.max, IntKind.signed, IntKind.bits] using h
  omega
theorem trod_ints {fuel : Nat} {v : Value} {x : DataW H × List MemPlace} (h : DataW.trod enc Tryd.prog W 0 (fun _ => true) true fuel 24 [v] = some x) : ∃ l : List Int, Sl W 1 v l.length (iv l) ∧ ∀ n ∈ l, I64 n := by
  obtain ⟨l, h1, h2⟩ := trod_nums Ty.ints Ty.int Ty.int_cells h
  exact ⟨l, h1, fun n hn => wf_i64 (h2 n hn)⟩
theorem trod_bytes {fuel : Nat} {v : Value} {x : DataW H × List MemPlace} (h : DataW.trod enc Tryd.prog W 0 (fun _ => true) true fuel 113 [v] = some x) : ∃ l : List UInt8, Sl W 1 v l.length (bv l) := by
  obtain ⟨l, h1, h2⟩ := trod_nums Ty.bytes Ty.u8 Ty.u8_cells h
  refine ⟨l.map fun z => UInt8.ofNat z.toNat, ?_⟩
  have e : bv (l.map fun z => UInt8.ofNat z.toNat) = l.map (Value.int .u8) := by
    simp only [bv, List.map_map]
    refine List.map_congr_left fun z hz => ?_
    have := wf_u8 (h2 z hz)
    simp only [Function.comp]
    congr 1
    simp only [UInt8.toNat_ofNat']
    omega
  rw [e, List.length_map]; exact h1
theorem arg_ints {base : Nat} {v : Value} {d : DataW H} {ps : List MemPlace} (hval : Value.okWide Tryd.prog W .any base 24 v) (h : DataW.Trod enc Tryd.prog W 0 (fun _ => true) true 24 v d ps) : ∃ l : List Int, Sl W 1 v l.length (iv l) ∧ ∀ n ∈ l, I64 n := by
  obtain ⟨_, _, hf⟩ := arg_sl Ty.ints hval h; exact trod_ints hf
theorem arg_bytes {base : Nat} {v : Value} {d : DataW H} {ps : List MemPlace} (hval : Value.okWide Tryd.prog W .any base 113 v) (h : DataW.Trod enc Tryd.prog W 0 (fun _ => true) true 113 v d ps) : ∃ l : List UInt8, Sl W 1 v l.length (bv l) := by
  obtain ⟨_, _, hf⟩ := arg_sl Ty.bytes hval h; exact trod_bytes hf
theorem arg_u16 {base : Nat} {v : Value} {d : DataW H} {ps : List MemPlace} (hval : Value.okWide Tryd.prog W .any base 71 v) (h : DataW.Trod enc Tryd.prog W 0 (fun _ => true) true 71 v d ps) : ∃ z, v = .int .u16 z ∧ 0 ≤ z ∧ z < 65536 := by
  obtain ⟨z, h1, _, _, h2⟩ := open_int Ty.u16 hval h; exact ⟨z, h1, wf_u16 h2⟩
theorem arg_u8 {base : Nat} {v : Value} {d : DataW H} {ps : List MemPlace} (hval : Value.okWide Tryd.prog W .any base 5 v) (h : DataW.Trod enc Tryd.prog W 0 (fun _ => true) true 5 v d ps) : ∃ z, v = .int .u8 z ∧ 0 ≤ z ∧ z < 256 := by
  obtain ⟨z, h1, _, _, h2⟩ := open_int Ty.u8 hval h; exact ⟨z, h1, wf_u8 h2⟩
theorem arg_u64 {base : Nat} {v : Value} {d : DataW H} {ps : List MemPlace} (hval : Value.okWide Tryd.prog W .any base 39 v) (h : DataW.Trod enc Tryd.prog W 0 (fun _ => true) true 39 v d ps) : ∃ z : BitVec 64, v = u64v z := by
  obtain ⟨z, h1, _, _, h2⟩ := open_int Ty.u64 hval h
  have : 0 ≤ z ∧ z ≤ 18446744073709551615 := by simpa [Lit.wf, IntKind.min, IntKind.max, IntKind.signed, IntKind.bits] using h2
  refine ⟨BitVec.ofNat 64 z.toNat, ?_⟩
  rw [h1, u64v, BitVec.toNat_ofNat]
  congr 1; omega
theorem arg_int {base : Nat} {v : Value} {d : DataW H} {ps : List MemPlace} (hval : Value.okWide Tryd.prog W .any base 3 v) (h : DataW.Trod enc Tryd.prog W 0 (fun _ => true) true 3 v d ps) : ∃ z, v = .int .i64 z ∧ I64 z := by
  obtain ⟨z, h1, _, _, h2⟩ := open_int Ty.int hval h; exact ⟨z, h1, wf_i64 h2⟩
theorem arg_str {base : Nat} {v : Value} {d : DataW H} {ps : List MemPlace} (hval : Value.okWide Tryd.prog W .any base 9 v) (h : DataW.Trod enc Tryd.prog W 0 (fun _ => true) true 9 v d ps) : ∃ s : ByteArray, v = .string s ∧ s.size ≤ 9223372036854775807 := by
  obtain ⟨s, h1, _, _, h2⟩ := Go.ChangeMaps.open_string Ty.str hval h
  exact ⟨s, h1, by simp only [maxLen] at h2; omega⟩
end
theorem own : ownKnob Tryd.prog.godebug = none := by kernel_rfl
theorem laid : laidOutB Tryd.prog = true := by kernel_rfl
end Go.Proofs.YtjinhojlnaplaaaDoor
