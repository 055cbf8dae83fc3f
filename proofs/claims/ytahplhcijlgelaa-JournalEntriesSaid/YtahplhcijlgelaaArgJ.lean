/- What the journal's laws' arguments are; and the bound on their sizes that the form gives. -/
import Derived.Test.YtahplhcijlgelaaArgB
import Derived.Test.YtahplhcijlgelaaRow1
import Derived.SizedLaws
namespace Go.Proofs.Ytahplhcijlgelaa
set_option maxRecDepth 100000
open Sh Go.RowKit Go.WideShapes Go.ChangeShapes
namespace Sh
theorem law_returns_sized {C : Checked} {os : Os} {f : FuncId} {fn : Func} {s : ChangeSpec} {conds : List PathCond} {apart fresh handsOn again : Bool} {bt : TypeId} {H : Type} {enc : TypeId × Value → H}
    (own : ownKnob C.prog.godebug = none) (started : os.Started) (noInit : C.prog.inits.idxOf? f = none) (hfn : C.prog.funcs[f]? = some fn)
    (witness : ∃ (w : World) (tape : Tape) (i : Input), w.os = os ∧ (w.forCall tape i).Shaped C.prog ∧ i.vars = [] ∧ Input.okWide C.prog (w.forCall tape i) .any w.heap.size f i ∧
      s.pre6 enc C.prog fn conds apart (w.forCall tape i).memory i.args ∧ ({} : Assume).holds C.prog (lone (Frame.enter C.prog f i.args .normal) [] (w.forCall tape i)))
    (hv : s.vars = []) (hl : laidOutB C.prog = true) (hr : ∀ t ∈ fn.params.toList, C.prog.readableRec t = true ∧ t < C.prog.types.size) (hrt : fn.resultTypes = #[bt]) (hbt : C.prog.underlying bt = some .bool)
    (hs : ∀ ds : List (DataW H), ds.length = fn.params.toList.length → s.fn H ds = { results := [.lit (.bool true)], args := ds })
    (walk : ∀ (W : World) (base : Nat) (args : List Value) (ds : List (DataW H)) (ps : List MemPlace), (∀ (j : Nat) t v, fn.params.toList[j]? = some t → args[j]? = some v → Value.okWide C.prog W .any base t v) →
      DataW.TrodAll enc C.prog W 0 (fun _ => true) true fn.params.toList args ds ps → (∀ (j : Nat) t d, fn.params.toList[j]? = some t → ds[j]? = some d → ∀ n ∈ d.weights C.prog t, n ≤ reachBytes) → LawTrue C.prog f args.toArray W) :
    ReturnsInHanded {} C os f .any (s.pre6 enc C.prog fn conds apart) (s.post enc C.prog fn apart fresh handsOn again) := by
  refine returnsInHanded_of_change_sized own started noInit hfn witness ?_
  intro W base args ds gs before hval hW _ hsz _
  have hW' := hW
  obtain ⟨p, q, hA, hV, rfl, _, _⟩ := hW
  have hvt : s.plain.varTypes C.prog = [] := by
    have : s.plain.vars = [] := hv
    simp [DataSpec.varTypes, this]
  rw [hv] at hV
  obtain ⟨rfl, rfl⟩ := trodVars_none hV
  have hlt := fun x (hx : x ∈ p) => hW'.lt x (by simp [hx])
  have hd := (trodAll_length hA).1
  have hfs := hs ds hd
  rw [hvt, List.append_nil, List.append_nil] at hsz
  have hw : LawTrue C.prog f args W := by
    have := walk W base args.toList ds p (fun j t v ht hv => hval j t v (by simpa using ht) (by simpa using hv)) hA (fun j t d ht hd n hn => by
      have := List.all_eq_true.1 hsz n (DataW.weights_mem_each ht hd n hn)
      simpa using this)
    simpa using this
  refine Calls.mono hw fun e W' he => ?_
  cases e with
  | returned v =>
    obtain ⟨rfl, hx⟩ := he
    refine ⟨_, rfl, post_of_below (pa := p) (pv := []) hW' (fun b sp hd => ?_) (fun sp hsp => ?_) (fun sp _ => ?_) (by simp) hx ?_⟩
    · rw [List.append_nil, hfs, hrt]
      exact trodAll_mk1 (shut_bool hbt true)
    · rw [List.append_nil, hfs]
      exact trodAll_below hl hx hr hA hlt fun x hx => hsp x (by simp [hx])
    · rw [List.append_nil, hfs, hv]; rfl
    · exact ok_one hrt rfl (by simp [Value.okWide, hbt, Cell.okWide, Cell.ok])
  | panicked _ => exact he.elim
  | outgrown => exact he.elim
end Sh
section
variable {H : Type} {enc : TypeId × Value → H} {W : World}
theorem small_slice {P : Program} {t e : TypeId} {base sz n : Nat} {v : Value} {xs : List Value} {d : DataW H} {ps : List MemPlace} (ht : P.underlying t = some (.slice e)) (hb : 0 < P.bytesOf e) (hval : Value.okWide P W .any base t v) (h : DataW.Trod enc P W 0 (fun _ => true) true t v d ps)
    (hsz : ∀ n ∈ d.weights P t, n ≤ reachBytes) (hs : Sl W sz v n xs) : n ≤ 1000000000000000 := by
  obtain ⟨fuel, x, hf⟩ := arg_sl ht hval h
  obtain ⟨fuel', hf'⟩ := h
  obtain ⟨a, len, cap, rfl⟩ := okWide_slice ht hval
  obtain ⟨a', cap', he, _⟩ := hs
  simp only [Value.slice.injEq] at he
  obtain ⟨rfl, rfl, rfl⟩ := he
  have hf' : DataW.trod enc P W 0 (fun _ => true) true fuel' t [.slice a len cap] = some (d, ps) := hf'
  rcases DataW.trod_slice ht hf' with ⟨h0, _⟩ | ⟨a', len', cap', elems, rest, n', _, hcs, hx, _, hl, hm, hlen, _⟩
  · simp only [List.cons.injEq, Value.slice.injEq, and_true] at h0
    omega
  · simp only [List.cons.injEq, Value.slice.injEq, and_true] at hcs
    simp only [Prod.mk.injEq] at hx
    have hw := hsz ((elems.length + rest.length) * P.bytesOf e) (by rw [hx.1]; simp [DataW.weights, ht])
    have h1 : (elems.length + rest.length) * 1 ≤ (elems.length + rest.length) * P.bytesOf e := Nat.mul_le_mul_left _ hb
    have h2 : reachBytes ≤ 1000000000000000 := by decide
    omega
theorem arg_rec {base : Nat} {v : Value} {d : DataW H} {ps : List MemPlace} (hval : Value.okWide Try.prog W .any base 29 v) (h : DataW.Trod enc Try.prog W 0 (fun _ => true) true 29 v d ps) : ∃ r : SRecord, v = .agg r.cells.toArray ∧ r.Ok := by
  unfold Value.okWide at hval
  rw [Ty.SRecord_und] at hval
  obtain ⟨cs, rfl, _⟩ := hval
  obtain ⟨fuel, hf⟩ := h
  obtain ⟨r, hc, ho⟩ := SRecord.of_trod hf
  exact ⟨r, by rw [← hc]; rfl, ho⟩
theorem arg_recs {base : Nat} {v : Value} {d : DataW H} {ps : List MemPlace} (hval : Value.okWide Try.prog W .any base 30 v) (h : DataW.Trod enc Try.prog W 0 (fun _ => true) true 30 v d ps) : ∃ l : List SRecord, SRecord.Row W v l ∧ ∀ r ∈ l, r.Ok := by
  obtain ⟨fuel, x, hf⟩ := arg_sl Ty.SRecord_row hval h
  exact SRecord.row_of_trod hf
theorem arg_ents {base : Nat} {v : Value} {d : DataW H} {ps : List MemPlace} (hval : Value.okWide Try.prog W .any base 39 v) (h : DataW.Trod enc Try.prog W 0 (fun _ => true) true 39 v d ps) : ∃ l : List SEntry, SEntry.Row W v l ∧ ∀ r ∈ l, r.Ok := by
  obtain ⟨fuel, x, hf⟩ := arg_sl Ty.SEntry_row hval h
  exact SEntry.row_of_trod hf
theorem wf_u32 {z : Int} (h : (Lit.int .u32 z).wf = true) : 0 ≤ z ∧ z < 4294967296 := by
  have : 0 ≤ z ∧ z ≤ 4294967295 := by simpa [Lit.wf, IntKind.min, IntKind.max, IntKind.signed, IntKind.bits] using h
  omega
theorem Ty.u32 : Try.prog.underlying 53 = some (.int .u32) := by kernel_rfl
theorem arg_u32 {base : Nat} {v : Value} {d : DataW H} {ps : List MemPlace} (hval : Value.okWide Try.prog W .any base 53 v) (h : DataW.Trod enc Try.prog W 0 (fun _ => true) true 53 v d ps) : ∃ z, v = .int .u32 z ∧ 0 ≤ z ∧ z < 4294967296 := by
  obtain ⟨z, h1, _, _, h2⟩ := open_int Ty.u32 hval h; exact ⟨z, h1, wf_u32 h2⟩
theorem small_bytes {base n : Nat} {v : Value} {xs : List Value} {d : DataW H} {ps : List MemPlace} (hval : Value.okWide Try.prog W .any base 22 v) (h : DataW.Trod enc Try.prog W 0 (fun _ => true) true 22 v d ps)
    (hsz : ∀ n ∈ d.weights Try.prog 22, n ≤ reachBytes) (hs : Sl W 1 v n xs) : n ≤ 1000000000000000 := small_slice Ty.bytes (of_decide_eq_true (by kernel_rfl)) hval h hsz hs
end
end Go.Proofs.Ytahplhcijlgelaa
