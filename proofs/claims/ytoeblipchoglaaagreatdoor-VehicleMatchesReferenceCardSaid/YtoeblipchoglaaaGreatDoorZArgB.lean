/- What the laws' arguments are, by their types. -/
import Derived.Test.YtoeblipchoglaaaGreatDoorZWrap
import Derived.Test.YtoeblipchoglaaaGreatDoorZBaseB
import Derived.Test.YtoeblipchoglaaaGreatDoorZBaseC
import Derived.ChangeMaps5
namespace Go.Proofs.YtoeblipchoglaaaGreatDoor
set_option maxRecDepth 100000
open Sh Go.RowKit Go.WideShapes Go.ChangeShapes
section
variable {H : Type} {enc : TypeId × Value → H} {W : World}
theorem arg_sl {P : Program} {t e : TypeId} {base : Nat} {v : Value} {d : DataW H} {ps : List MemPlace} (ht : P.underlying t = some (.slice e)) (hval : Value.okWide P W .any base t v) (h : DataW.Trod enc P W 0 (fun _ => true) true t v d ps) :
    ∃ (fuel : Nat) (x : DataW H × List MemPlace), DataW.trod enc P W 0 (fun _ => true) true fuel t [v] = some x := by
  obtain ⟨a, len, cap, rfl⟩ := okWide_slice ht hval
  obtain ⟨fuel, hf⟩ := h
  exact ⟨fuel, _, hf⟩
theorem wf_i64 {z : Int} (h : (Lit.int .i64 z).wf = true) : I64 z := by
  unfold I64
  simpa [Lit.wf, IntKind.min, IntKind.max, IntKind.signed, IntKind.bits] using h
theorem wf_u8 {z : Int} (h : (Lit.int .u8 z).wf = true) : 0 ≤ z ∧ z < 256 := by
  have : 0 ≤ z ∧ z ≤ 255 := by simpa [Lit.wf, IntKind.min, IntKind.max, IntKind.signed, IntKind.bits] using h
  omega
theorem wf_u16 {z : Int} (h : (Lit.int .u16 z).wf = true) : 0 ≤ z ∧ z < 65536 := by
  have : 0 ≤ z ∧ z ≤ 65535 := by simpa [Lit.wf, IntKind.min, IntKind.max, IntKind.signed, IntKind.bits] using h
  omega
theorem trod_bytes {fuel : Nat} {v : Value} {x : DataW H × List MemPlace} (h : DataW.trod enc Tryz.prog W 0 (fun _ => true) true fuel 26 [v] = some x) : ∃ l : List UInt8, Sl W 1 v l.length (bv l) := by
  obtain ⟨l, h1, h2⟩ := trod_nums Ty.bytes Ty.u8 Ty.u8_cells h
  refine ⟨l.map fun z => UInt8.ofNat z.toNat, ?_⟩
  have e : bv (l.map fun z => UInt8.ofNat z.toNat) = l.map (Value.int .u8) := by
    simp only [bv, List.map_map]
    refine List.map_congr_left fun z hz => ?_
    have := wf_u8 (h2 z hz)
    simp only [Function.comp]
    congr 1
    simp only [UInt8.toNat_ofNat']
    omega
  rw [e, List.length_map]; exact h1
theorem arg_u16 {base : Nat} {v : Value} {d : DataW H} {ps : List MemPlace} (hval : Value.okWide Tryz.prog W .any base 29 v) (h : DataW.Trod enc Tryz.prog W 0 (fun _ => true) true 29 v d ps) : ∃ z, v = .int .u16 z ∧ 0 ≤ z ∧ z < 65536 := by
  obtain ⟨z, h1, _, _, h2⟩ := open_int Ty.u16 hval h; exact ⟨z, h1, wf_u16 h2⟩
theorem arg_int {base : Nat} {v : Value} {d : DataW H} {ps : List MemPlace} (hval : Value.okWide Tryz.prog W .any base 3 v) (h : DataW.Trod enc Tryz.prog W 0 (fun _ => true) true 3 v d ps) : ∃ z, v = .int .i64 z ∧ I64 z := by
  obtain ⟨z, h1, _, _, h2⟩ := open_int Ty.int hval h; exact ⟨z, h1, wf_i64 h2⟩
end
theorem own : ownKnob Tryz.prog.godebug = none := by kernel_rfl
theorem laid : laidOutB Tryz.prog = true := by kernel_rfl
end Go.Proofs.YtoeblipchoglaaaGreatDoor
