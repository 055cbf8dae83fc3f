/- What the laws' arguments are, by their types. -/
import Derived.Test.YtbmkdhiigapbdaaWrap
import Derived.Test.YtbmkdhiigapbdaaFrsW
namespace Go.Proofs.Ytbmkdhiigapbdaa
open Sh Go.RowKit Go.WideShapes Go.ChangeShapes
section
variable {H : Type} {enc : TypeId × Value → H} {W : World}
theorem arg_sl {P : Program} {t e : TypeId} {base : Nat} {v : Value} {d : DataW H} {ps : List MemPlace} (ht : P.underlying t = some (.slice e)) (hval : Value.okWide P W .any base t v) (h : DataW.Trod enc P W 0 (fun _ => true) true t v d ps) :
    ∃ (fuel : Nat) (x : DataW H × List MemPlace), DataW.trod enc P W 0 (fun _ => true) true fuel t [v] = some x := by
  obtain ⟨a, len, cap, rfl⟩ := okWide_slice ht hval
  obtain ⟨fuel, hf⟩ := h
  exact ⟨fuel, _, hf⟩
theorem wf_i64 {z : Int} (h : (Lit.int .i64 z).wf = true) : Cod.I64 z := by
  unfold Cod.I64
  simpa [Lit.wf, IntKind.min, IntKind.max, IntKind.signed, IntKind.bits] using h
theorem wf_u8 {z : Int} (h : (Lit.int .u8 z).wf = true) : 0 ≤ z ∧ z < 256 := by
  have : 0 ≤ z ∧ z ≤ 255 := by simpa [Lit.wf, IntKind.min, IntKind.max, IntKind.signed, IntKind.bits] using h
  omega
theorem wf_u16 {z : Int} (h : (Lit.int .u16 z).wf = true) : 0 ≤ z ∧ z < 65536 := by
  have : 0 ≤ z ∧ z ≤ 65535 := by simpa [Lit.wf, IntKind.min, IntKind.max, IntKind.signed, IntKind.bits] using h
  omega
theorem trod_ints {fuel : Nat} {v : Value} {x : DataW H × List MemPlace} (h : DataW.trod enc Try.prog W 0 (fun _ => true) true fuel 22 [v] = some x) : ∃ l : List Int, Sl W 1 v l.length (iv l) ∧ ∀ n ∈ l, Cod.I64 n := by
  obtain ⟨l, h1, h2⟩ := trod_nums Ty.ints Ty.int Ty.int_cells h
  exact ⟨l, h1, fun n hn => wf_i64 (h2 n hn)⟩
theorem trod_bytes {fuel : Nat} {v : Value} {x : DataW H × List MemPlace} (h : DataW.trod enc Try.prog W 0 (fun _ => true) true fuel 23 [v] = some x) : ∃ l : List UInt8, Sl W 1 v l.length (bv l) := by
  obtain ⟨l, h1, h2⟩ := trod_nums Ty.bytes Ty.u8 Ty.u8_cells h
  refine ⟨l.map fun z => UInt8.ofNat z.toNat, ?_⟩
  have e : bv (l.map fun z => UInt8.ofNat z.toNat) = l.map (Value.int .u8) := by
    simp only [bv, List.map_map]
    refine List.map_congr_left fun z hz => ?_
    have := wf_u8 (h2 z hz)
    simp only [Function.comp]
    congr 1
    simp only [UInt8.toNat_ofNat']
    omega
  rw [e, List.length_map]; exact h1
theorem arg_ints {base : Nat} {v : Value} {d : DataW H} {ps : List MemPlace} (hval : Value.okWide Try.prog W .any base 22 v) (h : DataW.Trod enc Try.prog W 0 (fun _ => true) true 22 v d ps) : ∃ l : List Int, Sl W 1 v l.length (iv l) ∧ ∀ n ∈ l, Cod.I64 n := by
  obtain ⟨_, _, hf⟩ := arg_sl Ty.ints hval h; exact trod_ints hf
theorem arg_bytes {base : Nat} {v : Value} {d : DataW H} {ps : List MemPlace} (hval : Value.okWide Try.prog W .any base 23 v) (h : DataW.Trod enc Try.prog W 0 (fun _ => true) true 23 v d ps) : ∃ l : List UInt8, Sl W 1 v l.length (bv l) := by
  obtain ⟨_, _, hf⟩ := arg_sl Ty.bytes hval h; exact trod_bytes hf
theorem arg_lists {base : Nat} {v : Value} {d : DataW H} {ps : List MemPlace} (hval : Value.okWide Try.prog W .any base 32 v) (h : DataW.Trod enc Try.prog W 0 (fun _ => true) true 32 v d ps) : ∃ ll : List (List Int), LL W v ll ∧ ∀ l ∈ ll, ∀ n ∈ l, Cod.I64 n := by
  obtain ⟨_, _, hf⟩ := arg_sl Ty.lists hval h
  obtain ⟨n, xs, hs, hel⟩ := trod_sl Ty.lists Ty.ints_cells (by decide) hf
  have hxl : xs.length = n := by obtain ⟨_, _, _, _, _, h3, _⟩ := hs; omega
  obtain ⟨ll, hl, hR⟩ := pick_list (n := n) (R := fun i (l : List Int) => ∃ u, xs[i]? = some u ∧ Sl W 1 u l.length (iv l) ∧ ∀ n ∈ l, Cod.I64 n) fun i hi => by
    obtain ⟨m, y, hy⟩ := hel i hi
    have hu : xs[i]? = some (xs[i]'(by omega)) := List.getElem?_eq_getElem (by omega)
    rw [drop_one hu] at hy
    obtain ⟨l, h1, h2⟩ := trod_ints hy
    exact ⟨l, _, hu, h1, h2⟩
  refine ⟨ll, ⟨xs, by rw [hl]; exact hs, fun j u l hu hl => ?_⟩, fun l hl => ?_⟩
  · obtain ⟨u', h1, h2, _⟩ := hR j l hl
    rw [hu] at h1; cases h1; exact h2
  · obtain ⟨i, hi⟩ := List.getElem?_of_mem hl
    obtain ⟨_, _, _, h3⟩ := hR i l hi
    exact h3
theorem arg_u16 {base : Nat} {v : Value} {d : DataW H} {ps : List MemPlace} (hval : Value.okWide Try.prog W .any base 37 v) (h : DataW.Trod enc Try.prog W 0 (fun _ => true) true 37 v d ps) : ∃ z, v = .int .u16 z ∧ 0 ≤ z ∧ z < 65536 := by
  obtain ⟨z, h1, _, _, h2⟩ := open_int Ty.u16 hval h; exact ⟨z, h1, wf_u16 h2⟩
theorem arg_u8 {base : Nat} {v : Value} {d : DataW H} {ps : List MemPlace} (hval : Value.okWide Try.prog W .any base 5 v) (h : DataW.Trod enc Try.prog W 0 (fun _ => true) true 5 v d ps) : ∃ z, v = .int .u8 z ∧ 0 ≤ z ∧ z < 256 := by
  obtain ⟨z, h1, _, _, h2⟩ := open_int Ty.u8 hval h; exact ⟨z, h1, wf_u8 h2⟩
end
theorem own : ownKnob Try.prog.godebug = none := by kernel_rfl
theorem laid : laidOutB Try.prog = true := by kernel_rfl
end Go.Proofs.Ytbmkdhiigapbdaa
