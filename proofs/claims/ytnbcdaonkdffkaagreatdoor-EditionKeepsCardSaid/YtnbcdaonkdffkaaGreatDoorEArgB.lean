/- What the laws' arguments are, by their types. -/
import Derived.Test.YtnbcdaonkdffkaaGreatDoorEWrap
import Derived.Test.YtnbcdaonkdffkaaGreatDoorEBaseB
import Derived.Test.YtnbcdaonkdffkaaGreatDoorEBaseC
import Derived.ChangeMaps5
set_option linter.unusedVariables false
set_option linter.unusedSimpArgs false
namespace Go.Proofs.YtnbcdaonkdffkaaGreatDoor
set_option maxRecDepth 100000
open Sh Go.RowKit Go.WideShapes Go.ChangeShapes
section
variable {H : Type} {enc : TypeId × Value → H} {W : World}
theorem arg_sl {P : Program} {t e : TypeId} {base : Nat} {v : Value} {d : DataW H} {ps : List MemPlace} (ht : P.underlying t = some (.slice e)) (hval : Value.okWide P W .any base t v) (h : DataW.Trod enc P W 0 (fun _ => true) true t v d ps) :
    ∃ (fuel : Nat) (x : DataW H × List MemPlace), DataW.trod enc P W 0 (fun _ => true) true fuel t [v] = some x := by
  obtain ⟨a, len, cap, rfl⟩ := okWide_slice ht hval
  obtain ⟨fuel, hf⟩ := h
  exact ⟨fuel, _, hf⟩
theorem wf_i64 {z : Int} (h : (Lit.int .i64 z).wf = true) : I64 z := by
  unfold I64
  simpa [Lit.wf, IntKind.min, IntKind.max, IntKind.signed, IntKind.bits] using h
theorem wf_u8 {z : Int} (h : (Lit.int .u8 z).wf = true) : 0 ≤ z ∧ z < 256 := by
  have : 0 ≤ z ∧ z ≤ 255 := by simpa [Lit.wf, IntKind.min, IntKind.max, IntKind.signed, IntKind.bits] using h
  omega
theorem wf_u16 {z : Int} (h : (Lit.int .u16 z).wf = true) : 0 ≤ z ∧ z < 65536 := by
  have : 0 ≤ z ∧ z ≤ 65535 := by simpa [Lit.wf, IntKind.min, IntKind.max, IntKind.signed, IntKind.bits] using h
  omega
theorem trod_ints {fuel : Nat} {v : Value} {x : DataW H × List MemPlace} (h : DataW.trod enc Tryz.prog W 0 (fun _ => true) true fuel 36 [v] = some x) : ∃ l : List Int, Sl W 1 v l.length (iv l) ∧ ∀ n ∈ l, I64 n := by
  obtain ⟨l, h1, h2⟩ := trod_nums Ty.ints Ty.int Ty.int_cells h
  exact ⟨l, h1, fun n hn => wf_i64 (h2 n hn)⟩
theorem arg_ints {base : Nat} {v : Value} {d : DataW H} {ps : List MemPlace} (hval : Value.okWide Tryz.prog W .any base 36 v) (h : DataW.Trod enc Tryz.prog W 0 (fun _ => true) true 36 v d ps) : ∃ l : List Int, Sl W 1 v l.length (iv l) ∧ ∀ n ∈ l, I64 n := by
  obtain ⟨_, _, hf⟩ := arg_sl Ty.ints hval h; exact trod_ints hf
theorem arg_u16 {base : Nat} {v : Value} {d : DataW H} {ps : List MemPlace} (hval : Value.okWide Tryz.prog W .any base 74 v) (h : DataW.Trod enc Tryz.prog W 0 (fun _ => true) true 74 v d ps) : ∃ z, v = .int .u16 z ∧ 0 ≤ z ∧ z < 65536 := by
  obtain ⟨z, h1, _, _, h2⟩ := open_int Ty.u16 hval h; exact ⟨z, h1, wf_u16 h2⟩
theorem arg_u8 {base : Nat} {v : Value} {d : DataW H} {ps : List MemPlace} (hval : Value.okWide Tryz.prog W .any base 5 v) (h : DataW.Trod enc Tryz.prog W 0 (fun _ => true) true 5 v d ps) : ∃ z, v = .int .u8 z ∧ 0 ≤ z ∧ z < 256 := by
  obtain ⟨z, h1, _, _, h2⟩ := open_int Ty.u8 hval h; exact ⟨z, h1, wf_u8 h2⟩
theorem arg_u64 {base : Nat} {v : Value} {d : DataW H} {ps : List MemPlace} (hval : Value.okWide Tryz.prog W .any base 48 v) (h : DataW.Trod enc Tryz.prog W 0 (fun _ => true) true 48 v d ps) : ∃ z : BitVec 64, v = u64v z := by
  obtain ⟨z, h1, _, _, h2⟩ := open_int Ty.u64 hval h
  have : 0 ≤ z ∧ z ≤ 18446744073709551615 := by simpa [Lit.wf, IntKind.min, IntKind.max, IntKind.signed, IntKind.bits] using h2
  refine ⟨BitVec.ofNat 64 z.toNat, ?_⟩
  rw [h1, u64v, BitVec.toNat_ofNat]
  congr 1; omega
theorem arg_int {base : Nat} {v : Value} {d : DataW H} {ps : List MemPlace} (hval : Value.okWide Tryz.prog W .any base 3 v) (h : DataW.Trod enc Tryz.prog W 0 (fun _ => true) true 3 v d ps) : ∃ z, v = .int .i64 z ∧ I64 z := by
  obtain ⟨z, h1, _, _, h2⟩ := open_int Ty.int hval h; exact ⟨z, h1, wf_i64 h2⟩
end
theorem own : ownKnob Tryz.prog.godebug = none := by kernel_rfl
theorem laid : laidOutB Tryz.prog = true := by kernel_rfl
end Go.Proofs.YtnbcdaonkdffkaaGreatDoor
